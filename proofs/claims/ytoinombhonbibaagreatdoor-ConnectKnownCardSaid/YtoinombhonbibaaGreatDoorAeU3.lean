/-
  SHA-256: a chunk's numbers, one behind another.
-/
import Derived.Test.YtoinombhonbibaaGreatDoorAeU1
set_option linter.unusedSimpArgs false
set_option linter.unusedVariables false
set_option linter.unusedSectionVars false
set_option maxHeartbeats 4000000
namespace Go.AE
theorem plus3_w {a b c d e f g h a' b' c' d' e' f' g' h' : Nat} {H : Heap} {K : AV → Heap → Prop} (hk : ∀ H', Keep [] H H' → K (.agg (halvesA [add3 a a', add3 b b', add3 c c', add3 d d', add3 e e', add3 f f', add3 g g', add3 h h'])) H') :
    Wp tab.get (.call 363 [.agg (halvesA [a, b, c, d, e, f, g, h]), .agg (halvesA [a', b', c', d', e', f', g', h'])] H K) := by
  refine Wp.fn tab_mono (show tab.get 363 = some (.code ir363) from rfl) rfl ?_
  simp -dsimp only [cX_seq, cX_reg, regX_cons, regX_nil, evs, ev, Env.get, evX_some, Env.putO, Env.keep, paramEnv, outX_normal, opX_load, opX_alloc, opX_box_agg, opX_fieldAddr, Int.ofNat_eq_natCast, Nat.add_zero, Nat.zero_add, Heap.next_push]
  refine ⟨halvesA_one _, halvesA_one _, ?_⟩
  generalize hZ : (AObj.cells true [AV.int IntKind.u32 ((0 : Nat) : Int), _, _, _, _, _, _, _]) = Z
  have hZ' : ∃ z, Z = .cells true z ∧ z.length = 8 := ⟨_, hZ.symm, rfl⟩
  clear hZ
  obtain ⟨z, rfl, hz⟩ := hZ'
  generalize hH2 : Heap.push (Heap.push (Heap.push H _) _) (AObj.cells true z) = H2
  have k2 : Keep [] H H2 := by rw [← hH2]; exact ((Keep.push _ _ _).trans (Keep.push _ _ _)).trans (Keep.push _ _ _)
  have hl0 : ∀ o, H2.load none H.next o = cell1 (halvesA [a, b, c, d, e, f, g, h]) o := fun o => load_one (by rw [← hH2, get_push_old (by simp; omega), get_push_old (by simp), get_push_new])
  have hl1 : ∀ o, H2.load none (H.next + 1) o = cell1 (halvesA [a', b', c', d', e', f', g', h']) o := fun o => load_one (by rw [← hH2, get_push_old (by simp)]; exact get_push_new (H.push _) _)
  have g2 : H2.get (H.next + 1 + 1) = some (.cells true z) := by rw [← hH2]; exact get_push_new ((H.push _).push _) _
  have hf : ∀ p q r s t u v y : Nat, fillA [AV.int IntKind.u32 ((0 : Nat) : Int), AV.int IntKind.u32 ((0 : Nat) : Int), AV.int IntKind.u32 ((0 : Nat) : Int), AV.int IntKind.u32 ((0 : Nat) : Int), AV.int IntKind.u32 ((0 : Nat) : Int), AV.int IntKind.u32 ((0 : Nat) : Int), AV.int IntKind.u32 ((0 : Nat) : Int), AV.int IntKind.u32 ((0 : Nat) : Int)] [(0, 1), (1, 1), (2, 1), (3, 1), (4, 1), (5, 1), (6, 1), (7, 1)] [.int .u32 (p : Int), .int .u32 (q : Int), .int .u32 (r : Int), .int .u32 (s : Int), .int .u32 (t : Int), .int .u32 (u : Int), .int .u32 (v : Int), .int .u32 (y : Int)] = some (halvesA [p, q, r, s, t, u, v, y]) := fun _ _ _ _ _ _ _ _ => rfl
  have ew : ∀ p q r s t u v y : Nat, H2.write (H.next + 1 + 1) 0 (halvesA [p, q, r, s, t, u, v, y]) = some (H2.set (H.next + 1 + 1) (.cells true (halvesA [p, q, r, s, t, u, v, y]))) := fun _ _ _ _ _ _ _ _ => write_whole g2 (by rw [hz]; rfl)
  have el2 : ∀ p q r s t u v y : Nat, (H2.set (H.next + 1 + 1) (.cells true (halvesA [p, q, r, s, t, u, v, y]))).load (some 8) (H.next + 1 + 1) 0 = some (.agg (halvesA [p, q, r, s, t, u, v, y])) := fun _ _ _ _ _ _ _ _ => load_whole (get_set_same _ _ _) rfl
  simp -dsimp only [hl0, hl1, halves_zero, halves_succ, opX_build, hf, ew, el2, cX_ret, regX_cons, regX_nil, evs, ev, Env.get, evX_some, Env.putO, Env.keep, outX_normal, retX_ret, resultsA, resultsL, resultOf, optX_some, opX_bin, opX_load, opX_store_agg, opX_fieldAddr, Int.ofNat_eq_natCast, Nat.add_zero, Nat.zero_add, bin_add_u32]
  refine ⟨⟨rfl, halvesA_one _⟩, hk _ (k2.trans' (Keep.set (S := [H.next + 1 + 1]) _ (.inr (by simp))) (by simp; omega))⟩

theorem rep64 (x : AV) : List.replicate 64 x = [x, x, x, x, x, x, x, x, x, x, x, x, x, x, x, x, x, x, x, x, x, x, x, x, x, x, x, x, x, x, x, x, x, x, x, x, x, x, x, x, x, x, x, x, x, x, x, x, x, x, x, x, x, x, x, x, x, x, x, x, x, x, x, x] := rfl
theorem padH_nil : padH [] = List.replicate 64 (AV.int IntKind.u32 ((0 : Nat) : Int)) := by simp [padH, halvesA]
theorem numbers_w {b o n e : Nat} {c : Option Nat} {H : Heap} {K : AV → Heap → Prop}
    (h : ∀ H', Keep [] H H' → H'.get H.next = some (.cells true [.sl b o n c e]) → H'.get (H.next + 1) = some (.cells true (padH [])) → H'.get (H.next + 2) = some (.cells true [.int .i64 ((0 : Nat) : Int)]) → H'.next = H.next + 3 →
      K (.fn 367 [] [.ptr (H.next + 2) 0, .ptr H.next 0, .ptr (H.next + 1) 0]) H') :
    Wp tab.get (.call 361 [.sl b o n c e] H K) := by
  refine Wp.fn tab_mono (show tab.get 361 = some (.code ir361) from rfl) rfl ?_
  have ew : ∀ A B : AObj, (((H.push A).push B).push (.cells true [.int .i64 ((0 : Nat) : Int)])).write (H.next + 1 + 1) 0 [.int .i64 ((0 : Nat) : Int)] = some ((((H.push A).push B).push (.cells true [.int .i64 ((0 : Nat) : Int)])).set (H.next + 1 + 1) (.cells true [.int .i64 ((0 : Nat) : Int)])) := fun A B =>
    write_one (get_push_new ((H.push A).push B) _) (by simp)
  simp -dsimp only [ew, cX_seq, cX_reg, cX_ret, regX_cons, regX_nil, evs, ev, Env.get, evX_some, Env.putO, Env.keep, paramEnv, outX_normal, retX_ret, resultsA, resultsL, resultOf, optX_some, opX_move, opX_store_int, opX_alloc, opX_box_sl, opX_mkFunc, Int.ofNat_eq_natCast, Heap.next_push]
  rw [← rep64, ← padH_nil]
  refine h _ ((((Keep.push _ _ _).trans (Keep.push _ _ _)).trans (Keep.push _ _ _)).trans' (Keep.set (S := [H.next + 2]) _ (.inr (by simp))) (by simp)) ?_ ?_ (get_set_same _ _ _) (by simp)
  · rw [get_set_ne (by omega), get_push_old (by simp; omega), get_push_old (by simp), get_push_new]
  · rw [get_set_ne (by omega), get_push_old (by simp)]; exact get_push_new (H.push _) _

theorem four_get {l : List Nat} {k : Nat} (h : k + 4 ≤ l.length) : (l.drop k).take 4 = [l.getD k 0, l.getD (k + 1) 0, l.getD (k + 2) 0, l.getD (k + 3) 0] := by
  rw [drop_getD3 (t := k) (by omega), drop_getD3 (t := k + 1) (by omega), drop_getD3 (t := k + 1 + 1) (by omega), drop_getD3 (t := k + 1 + 1 + 1) (by omega)]
  rfl
theorem or3_mod (x y : Nat) : or3 (x % 4294967296) y = or3 x y := by
  simp only [or3]
  rw [show Nat.mod (x % 4294967296) 4294967296 = Nat.mod x 4294967296 from Nat.mod_mod _ _]
theorem word3_is (a b c d : Nat) : or3 (or3 (or3 (d % 4294967296) (c % 4294967296 * 2 ^ Nat.min 8 32 % 4294967296)) (b % 4294967296 * 2 ^ Nat.min 16 32 % 4294967296)) (a % 4294967296 * 2 ^ Nat.min 24 32 % 4294967296) = word3 [a, b, c, d] := by
  rw [or3_mod]
  have h1 : c % 4294967296 * 2 ^ Nat.min 8 32 % 4294967296 = c * 256 % 4294967296 := by
    show c % 4294967296 * 256 % 4294967296 = _; omega
  have h2 : b % 4294967296 * 2 ^ Nat.min 16 32 % 4294967296 = b * 65536 % 4294967296 := by
    show b % 4294967296 * 65536 % 4294967296 = _; omega
  have h3 : a % 4294967296 * 2 ^ Nat.min 24 32 % 4294967296 = a * 16777216 % 4294967296 := by
    show a % 4294967296 * 16777216 % 4294967296 = _; omega
  rw [h1, h2, h3]
  rfl
theorem next3_w {bn bc bm b o n i : Nat} {c : Option Nat} {w wc : Bool} {cs l : List Nat} {H : Heap} {K : AV → Heap → Prop}
    (gn : H.get bn = some (.cells true [.int .i64 (i : Int)])) (gc : H.get bc = some (.cells wc [.sl b o n c 5])) (gm : H.get bm = some (.cells true (padH ((spread3 l).take i)))) (gb : H.get b = some (.cells w (bytesA cs)))
    (hl : (cs.drop o).take 64 = l) (hlen : o + 64 ≤ cs.length) (hn : 64 ≤ n) (hi : i < 64) (d1 : bn ≠ bm) (h1 : bn < H.next) (h2 : bm < H.next)
    (hk : ∀ H', Keep [bn, bm] H H' → H'.get bn = some (.cells true [.int .i64 ((i + 1 : Nat) : Int)]) → H'.get bm = some (.cells true (padH ((spread3 l).take (i + 1)))) → K (.int .u32 ((spread3 l).getD i 0 : Nat)) H') :
    Wp u1 (.call 367 [.ptr bn 0, .ptr bc 0, .ptr bm 0] H K) := by
  refine Wp.fn u1_mono (show u1 367 = some (.code ir367) from rfl) rfl ?_
  have hS := spread3_length l
  have hlow : ∀ {i : Nat}, i < 16 → (spread3 l).getD i 0 = _ := fun h => spread3_low l h
  have hhigh : ∀ {i : Nat}, 16 ≤ i → i < 64 → (spread3 l).getD i 0 = _ := fun h h' => spread3_high l h h'
  generalize spread3 l = S at *
  have hll : l.length = 64 := by rw [← hl]; simp; omega
  have hTl : (S.take i).length = i := by rw [List.length_take]; omega
  have hT1 : (S.take (i + 1)).length = i + 1 := by rw [List.length_take]; omega
  have hPl := padH_length (l := S.take i) (by omega)
  have en : H.load none bn 0 = some (.int .i64 i) := by rw [load_one gn, cell1_zero]
  have ec : H.load none bc 0 = some (.sl b o n c 5) := by rw [load_one gc, cell1_zero]
  have e4 : IntKind.i64.wrap (((4 : Nat) : Int) * (i : Int)) = ((4 * i : Nat) : Int) := by rw [wrap_i64 (by omega) (by omega)]; omega
  have gnX : ∀ {X}, Keep [] H X → X.get bn = some (.cells true [.int .i64 (i : Int)]) := fun k => k.get h1 (by simp) gn
  have gmX : ∀ {X}, Keep [] H X → X.get bm = some (.cells true (padH (S.take i))) := fun k => k.get h2 (by simp) gm
  have enX : ∀ {X}, Keep [] H X → X.load none bn 0 = some (.int .i64 i) := fun k => by rw [load_one (gnX k), cell1_zero]
  have ewm : ∀ {X}, Keep [] H X → X.write bm i [.int .u32 (S.getD i 0 : Nat)] = some (X.set bm (.cells true (padH (S.take (i + 1))))) := fun k => by
    rw [write_one (gmX k) (by omega), padH_set hTl (by omega), take_snoc3 (by omega)]
  have en2 : ∀ {X}, Keep [] H X → ∀ Y, (X.set bm Y).load none bn 0 = some (.int .i64 i) := fun k Y => by rw [load_one (by rw [get_set_ne d1]; exact gnX k), cell1_zero]
  have ewn : ∀ {X}, Keep [] H X → ∀ Y (v : Int), (X.set bm Y).write bn 0 [.int .i64 v] = some ((X.set bm Y).set bn (.cells true [.int .i64 v])) := fun k Y v => write_one (c := [.int .i64 (i : Int)]) (by rw [get_set_ne d1]; exact gnX k) (by simp)
  have en3 : ∀ X Y (v : Int), ((Heap.set X bm Y).set bn (.cells true [.int .i64 v])).load none bn 0 = some (.int .i64 v) := fun X Y v => by rw [load_one (get_set_same _ _ _), cell1_zero]
  have em3 : ∀ X (v : Int), ((Heap.set X bm (.cells true (padH (S.take (i + 1))))).set bn (.cells true [.int .i64 v])).load none bm i = some (.int .u32 (S.getD i 0 : Nat)) := fun X v => by
    rw [load_one (by rw [get_set_ne d1.symm]; exact get_set_same _ _ _), padH_at (by omega), take_getD (by omega) (by omega)]
  have e1 : IntKind.i64.wrap ((i : Int) + ((1 : Nat) : Int)) = ((i + 1 : Nat) : Int) := by rw [wrap_i64 (by omega) (by omega)]; omega
  have e2 : IntKind.i64.wrap (((i + 1 : Nat) : Int) - ((1 : Nat) : Int)) = (i : Int) := by rw [wrap_i64 (by omega) (by omega)]; omega
  have done : ∀ {X}, Keep [] H X → K (.int .u32 (S.getD i 0 : Nat)) ((Heap.set X bm (.cells true (padH (S.take (i + 1))))).set bn (.cells true [.int .i64 ((i + 1 : Nat) : Int)])) := by
    intro X k
    refine hk _ ?_ (get_set_same _ _ _) (by rw [get_set_ne d1.symm]; exact get_set_same _ _ _)
    exact ((k.mono (by simp)).trans (Keep.set (S := [bn, bm]) _ (.inr (by simp)))).trans (Keep.set _ (.inr (by simp)))
  simp -dsimp only [en, ec, e4, cX_seq, cX_reg, cX_dreg, cX_cond, regX_cons, regX_nil, dregX_pure (kd_bin _), dregX_pure (kd_idxArr _ _), dregX_read (kd_load _), evs, ev, Env.get, evX_some, Env.putO, Env.keep, paramEnv, outX_normal, optX_some, opX_move, opX_bin, opX_load, opX_idxArr, bin_sub_i64, bin_mul_i64, bin_lss, brX_decide, Int.ofNat_eq_natCast, Nat.mul_one, Nat.add_zero, Nat.zero_add, heap_eta]
  refine ⟨fun hlt => ?_, fun hge => ?_⟩
  · have hi16 : i < 16 := by omega
    have hb : ∀ k, k < 4 → H.load none b (o + 4 * i + k) = some (.int .u8 ((l.getD (4 * i + k) 0 : Nat) : Int)) := by
      intro k hk4
      rw [load_one gb, cell1_eq (by simp; omega), bytesA_get]
      subst hl
      rw [List.getD_eq_getElem?_getD, List.getElem?_take_of_lt (by omega), List.getElem?_drop, ← Nat.add_assoc, List.getElem?_eq_getElem (by omega)]
      rfl
    have hb0 : H.load none b (o + 4 * i) = some (.int .u8 ((l.getD (4 * i) 0 : Nat) : Int)) := hb 0 (by decide)
    have k0 := Keep.refl [] H
    have hw := word3_is (l.getD (4 * i) 0) (l.getD (4 * i + 1) 0) (l.getD (4 * i + 2) 0) (l.getD (4 * i + 3) 0)
    rw [← four_get (by omega), ← hlow hi16] at hw
    simp -dsimp only [opX_slice, slice_lo (show 4 * i ≤ n by omega), en, hb 3 (by decide), hb 2 (by decide), hb 1 (by decide), hb0, hw, ewm k0, en2 k0, ewn k0, en3, em3, e1, e2, cX_seq, cX_reg, cX_dreg, cX_ret, regX_cons, regX_nil, dregX_nil, dregX_pure kd_move, dregX_pure (kd_bin _), dregX_pure (kd_cvInt _), dregX_pure (kd_idxArr _ _), dregX_pure (kd_idxSl _), dregX_read (kd_load _), dregX_eff, flush, watched_nil, watched_1_0, evs, ev, Env.get, evX_some, Env.putO, Env.keep, outX_normal, retX_ret, resultsA, resultsL, resultOf, optX_some, opX_move, opX_bin, opX_load, opX_store_int, opX_idxArr, opX_idxSl, bin_add_i64, bin_sub_i64, Int.ofNat_eq_natCast, Int.toNat_natCast, Nat.mul_one, Nat.add_zero, Nat.zero_add, heap_eta, true_and, bin_or_u32, bin_shl_u32, opX_cvU32]
    refine ⟨by omega, by omega, by omega, by omega, by omega, by omega, done k0⟩
  · have hi16 : 16 ≤ i := by omega
    have emX : ∀ {X}, Keep [] H X → ∀ j, j < i → X.load none bm j = some (.int .u32 (S.getD j 0 : Nat)) := fun k j hj => by
      rw [load_one (gmX k), padH_at (by omega), take_getD hj (by omega)]
    have em := emX (Keep.refl [] H)
    have s15 : IntKind.i64.wrap ((i : Int) - ((15 : Nat) : Int)) = ((i - 15 : Nat) : Int) := by rw [wrap_i64 (by omega) (by omega)]; omega
    have s2 : IntKind.i64.wrap ((i : Int) - ((2 : Nat) : Int)) = ((i - 2 : Nat) : Int) := by rw [wrap_i64 (by omega) (by omega)]; omega
    have s16 : IntKind.i64.wrap ((i : Int) - ((16 : Nat) : Int)) = ((i - 16 : Nat) : Int) := by rw [wrap_i64 (by omega) (by omega)]; omega
    have s7 : IntKind.i64.wrap ((i : Int) - ((7 : Nat) : Int)) = ((i - 7 : Nat) : Int) := by rw [wrap_i64 (by omega) (by omega)]; omega
    have a1 : allocOp (.buildSlice 3 2 [.int .i64 ((0 : Nat) : Int)] [(0, 1), (1, 1)]) [.int .i64 ((7 : Nat) : Int), .int .i64 ((18 : Nat) : Int)] = some (fun b => .sl b 0 2 (some 2) 3, .cells true (intsA [7, 18])) := rfl
    have a2 : allocOp (.buildSlice 3 2 [.int .i64 ((0 : Nat) : Int)] [(0, 1), (1, 1)]) [.int .i64 ((17 : Nat) : Int), .int .i64 ((19 : Nat) : Int)] = some (fun b => .sl b 0 2 (some 2) 3, .cells true (intsA [17, 19])) := rfl
    simp -dsimp only [en, s15, s2, s16, s7, em (i - 15) (by omega), em (i - 2) (by omega), em (i - 16) (by omega), em (i - 7) (by omega), load_mk, a1, callu_turned, cX_dreg, dregX_nil, dregX_pure kd_move, dregX_pure (kd_bin _), dregX_pure (kd_idxArr _ _), dregX_read (kd_load _), dregX_alloc, dregX_eff, flush, evs, ev, Env.get, evX_some, Env.putO, Env.keep, outX_normal, optX_some, opX_move, opX_bin, opX_call, opX_load, opX_idxArr, bin_sub_i64, bin_shr_nat, List.nil_append, List.append_nil, Int.ofNat_eq_natCast, Int.toNat_natCast, Nat.mul_one, Nat.add_zero, Nat.zero_add]
    refine ⟨by omega, by omega, by omega, by omega, ?_⟩
    generalize hH2 : Heap.set _ H.next _ = H2
    have k2 : Keep [] H H2 := by rw [← hH2]; exact (keep_mk H 2).trans' (Keep.set (S := [H.next]) _ (.inr (by simp))) (by simp)
    have g2 : H2.get H.next = some (.cells true (intsA [7, 18])) := by rw [← hH2]; exact get_set_same _ _ _
    have n2 : H2.next = H.next + 2 := by rw [← hH2]; simp
    refine turned_w (l := [7, 18]) g2 rfl (by decide) (by decide) ?_
    have em2 := emX k2
    have enn := enX k2
    simp -dsimp only [watched_hit, em2 (i - 16) (by omega), em2 (i - 7) (by omega), enn, a2, callu_turned, dregX_pure (kd_bin _), dregX_alloc, dregX_eff, flush, watched_nil, evs, ev, Env.get, evX_some, Env.putO, optX_some, opX_bin, opX_call, List.nil_append, List.append_nil, Int.ofNat_eq_natCast, true_and, bin_add_u32, bin_xor_u32]
    generalize hH3 : Heap.set H2 (H.next + 1) _ = H3
    have k3 : Keep [] H H3 := by rw [← hH3]; exact k2.trans' (Keep.set (S := [H.next + 1]) _ (.inr (by simp))) (by simp)
    have g3 : H3.get (H.next + 1) = some (.cells true (intsA [17, 19])) := by rw [← hH3]; exact get_set_same _ _ _
    refine turned_w (l := [17, 19]) g3 rfl (by decide) (by decide) ?_
    have hw := hhigh hi16 hi
    have hw2 : add3 (add3 (add3 (S.getD (i - 16) 0) (xor3 (turnN (S.getD (i - 15) 0) [7, 18] 0) (S.getD (i - 15) 0 / 2 ^ Nat.min 3 IntKind.u32.bits))) (S.getD (i - 7) 0)) (xor3 (turnN (S.getD (i - 2) 0) [17, 19] 0) (S.getD (i - 2) 0 / 2 ^ Nat.min 10 IntKind.u32.bits)) = S.getD i 0 := by
      rw [hw]; rfl
    simp -dsimp only [watched_hit, emX k3 (i - 16) (by omega), emX k3 (i - 7) (by omega), enX k3, hw2, ewm k3, en2 k3, ewn k3, en3, em3, e1, e2, cX_seq, cX_reg, cX_ret, regX_cons, regX_nil, dregX_nil, dregX_pure (kd_bin _), dregX_pure (kd_idxArr _ _), dregX_eff, flush, watched_nil, watched_3_2, evs, ev, Env.get, evX_some, Env.putO, Env.keep, outX_normal, retX_ret, resultsA, resultsL, resultOf, optX_some, opX_move, opX_bin, opX_load, opX_store_int, opX_idxArr, bin_add_i64, bin_sub_i64, Int.ofNat_eq_natCast, Int.toNat_natCast, Nat.mul_one, Nat.zero_add, true_and, bin_add_u32, bin_xor_u32]
    exact ⟨by omega, by omega, done k3⟩
end Go.AE

/-
  SHA-256: a chunk's change.
-/
set_option maxHeartbeats 4000000
namespace Go.AE
/-- the cells of the rounds' numbers. -/
structure Glob3 (H : Heap) : Prop where
  konst : H.get 2 = some (.cells false (halvesA sha3K))
  next : 3 ≤ H.next
theorem Glob3.keep {S : List Nat} {H H' : Heap} (h : Glob3 H) (hk : Keep S H H') (h0 : 2 ∉ S) : Glob3 H' :=
  ⟨(hk.same 2 (by have := h.next; omega) h0).trans h.konst, Nat.le_trans h.next hk.next⟩
def u2 : Nat → Option FSpec := over (over (over (over u1 362 (low u1 362)) 367 (low u1 367)) 363 (low tab.get 363)) 361 (low tab.get 361)
theorem u2_mono : TMono u2 := (((u1_mono.over low_mono).over low_mono).over low_mono).over low_mono
theorem callu2_round (args : List AV) (H : Heap) (K : AV → Heap → Prop) : callX (Wp u2) 362 args H K = Wp u1 (.call 362 args H K) := by
  rw [call_spec u2_mono (f := 362) (S := low u1 362) rfl]; rfl
theorem callu2_next (args : List AV) (H : Heap) (K : AV → Heap → Prop) : callX (Wp u2) 367 args H K = Wp u1 (.call 367 args H K) := by
  rw [call_spec u2_mono (f := 367) (S := low u1 367) rfl]; rfl
theorem callu2_plus (args : List AV) (H : Heap) (K : AV → Heap → Prop) : callX (Wp u2) 363 args H K = Wp tab.get (.call 363 args H K) := by
  rw [call_spec u2_mono (f := 363) (S := low tab.get 363) rfl]; rfl
theorem callu2_numbers (args : List AV) (H : Heap) (K : AV → Heap → Prop) : callX (Wp u2) 361 args H K = Wp tab.get (.call 361 args H K) := by
  rw [call_spec u2_mono (f := 361) (S := low tab.get 361) rfl]; rfl

theorem halves_beq : ∀ l : List Nat, AV.beqs (halvesA l) (halvesA l) = true
  | [] => rfl
  | x :: r => by
    show (AV.beq (.int .u32 (x : Int)) (.int .u32 (x : Int)) && AV.beqs (halvesA r) (halvesA r)) = true
    rw [halves_beq r]; simp [AV.beq]
theorem watched_many {k hi b o n : Nat} {H : Heap} {l : List Nat} {r : List Watch} (h : H.load (some n) b o = some (.agg (halvesA l))) : watched k H (⟨hi, .load (some n), [.ptr b o], .agg (halvesA l)⟩ :: r) = watched k H r := by
  simp [watched, readOp, h, AV.beq, halves_beq]
theorem alloc_alloc (z : List AV) : allocOp (.alloc z) [] = some (fun b => .ptr b 0, .cells true z) := rfl
theorem list8h {v : List Nat} (h : v.length = 8) : ∃ a b c d e f g i, v = [a, b, c, d, e, f, g, i] := by
  match v, h with
  | [a, b, c, d, e, f, g, h], _ => exact ⟨a, b, c, d, e, f, g, h, rfl⟩
theorem next3_at {S : List Nat} {bn bc bm b o n i : Nat} {c : Option Nat} {w wc : Bool} {cs l : List Nat} {H : Heap} {K : AV → Heap → Prop} (hS : spread3 l = S)
    (gn : H.get bn = some (.cells true [.int .i64 (i : Int)])) (gc : H.get bc = some (.cells wc [.sl b o n c 5])) (gm : H.get bm = some (.cells true (padH (S.take i)))) (gb : H.get b = some (.cells w (bytesA cs)))
    (hl : (cs.drop o).take 64 = l) (hlen : o + 64 ≤ cs.length) (hn : 64 ≤ n) (hi : i < 64) (d1 : bn ≠ bm) (h1 : bn < H.next) (h2 : bm < H.next)
    (hk : ∀ H', Keep [bn, bm] H H' → H'.get bn = some (.cells true [.int .i64 ((i + 1 : Nat) : Int)]) → H'.get bm = some (.cells true (padH (S.take (i + 1)))) → K (.int .u32 (S.getD i 0 : Nat)) H') :
    Wp u1 (.call 367 [.ptr bn 0, .ptr bc 0, .ptr bm 0] H K) := by
  subst hS
  exact next3_w gn gc gm gb hl hlen hn hi d1 h1 h2 hk

theorem change_w {sv : List Nat} {b o n : Nat} {c : Option Nat} {w : Bool} {cs l : List Nat} {H : Heap} {K : AV → Heap → Prop} (hG : Glob3 H) (hs : sv.length = 8)
    (gb : H.get b = some (.cells w (bytesA cs))) (hb' : b < H.next) (hl : (cs.drop o).take 64 = l) (hlen : o + 64 ≤ cs.length) (hn : 64 ≤ n)
    (hk : ∀ H', Keep [] H H' → K (.agg (halvesA (change3 sv l))) H') : Wp u2 (.call 352 [.agg (halvesA sv), .sl b o n c 5] H K) := by
  refine Wp.fn u2_mono (show u2 352 = some (.code ir352) from rfl) rfl ?_
  obtain ⟨S, hS⟩ : ∃ S, spread3 l = S := ⟨_, rfl⟩
  have hSl : S.length = 64 := hS ▸ spread3_length l
  have hC : change3 sv l = List.zipWith add3 (rounds3 sha3K S sv) sv := by simp only [change3, forceL_eq, hS]
  obtain ⟨Q, hQ⟩ : ∃ Q, sha3K = Q := ⟨_, rfl⟩
  have hQl : Q.length = 64 := hQ ▸ rfl
  have hKo := hG.konst
  have hKn := hG.next
  rw [hC] at hk
  rw [hQ] at hk hKo
  simp -dsimp only [cX_seq, cX_reg, cX_dreg, regX_cons, regX_nil, dregX_pure kd_move, dregX_read (kd_load _), evs, ev, Env.get, evX_some, Env.putO, Env.keep, paramEnv, outX_normal, opX_move, opX_load, opX_alloc, opX_box_agg, Int.ofNat_eq_natCast, Nat.zero_add, Heap.next_push]
  refine ⟨halvesA_one _, ?_⟩
  generalize hZ : (AObj.cells true [AV.int IntKind.u32 ((0 : Nat) : Int), _, _, _, _, _, _, _]) = Z
  have hZ' : ∃ z, Z = .cells true z ∧ z.length = 8 := ⟨_, hZ.symm, rfl⟩
  clear hZ
  obtain ⟨z, rfl, hz⟩ := hZ'
  generalize hH1 : Heap.mk (H.next + 1 + 1 + 1) _ = H1
  have k1 : Keep [] H H1 := by
    rw [← hH1]; exact ((Keep.push _ _ _).trans (Keep.push _ _ _)).trans (keep_mk ((H.push _).push _) 1)
  have n1 : H1.next = H.next + 3 := by rw [← hH1]
  have g0 : H1.get H.next = some (.cells true (halvesA sv)) := by rw [← hH1, get_mkh, get_push_old (by simp), get_push_new]
  have g1 : H1.get (H.next + 1) = some (.cells true z) := by rw [← hH1, get_mkh]; exact get_push_new (H.push _) _
  have e0 := load_whole (n := 8) g0 (by simpa using hs)
  simp -dsimp only [e0, callu2_numbers, dregX_alloc, dregX_eff, flush, evs, ev, Env.get, evX_some, Env.putO, optX_some, opX_call, List.nil_append, List.append_nil, Int.ofNat_eq_natCast]
  refine numbers_w ?_
  intro H2 k2 q0 q1 q2 qn
  have n2 : H2.next = H.next + 6 := by omega
  have e02 := load_whole (n := 8) (k2.get (by omega) (by simp) g0) (by simpa using hs)
  have ew2 : ∀ z' : List AV, z'.length = 8 → (H2.set (H.next + 2) (.cells true z')).write (H.next + 2) 0 (halvesA sv) = some ((H2.set (H.next + 2) (.cells true z')).set (H.next + 2) (.cells true (halvesA sv))) := fun z' hz' => write_whole (get_set_same _ _ _) (by rw [hz']; simpa using hs)
  simp -dsimp only [watched_many e02, alloc_alloc, dregX_pure kd_move, dregX_eff, flush, watched_nil, evs, ev, Env.get, evX_some, Env.putO, optX_some, opX_move, opX_store_agg, Nat.add_zero, true_and]
  generalize hZ : [AV.int IntKind.u32 ((0 : Nat) : Int), _, _, _, _, _, _, _] = z2
  have hz2 : z2.length = 8 := by rw [← hZ]; rfl
  simp -dsimp only [ew2 z2 hz2, cX_seq, cX_reg, regX_cons, dregX_nil, flush, watched_nil, watched_2_1, evs, ev, Env.get, evX_some, Env.putO, Env.keep, outX_normal, optX_some, opX_load, true_and]
  refine ⟨⟨by simpa using hs, halvesA_one _⟩, ?_⟩
  rw [show (H2.set (H.next + 2) (.cells true z2)).set (H.next + 2) (.cells true (halvesA sv)) = H2.set (H.next + 2) (.cells true (halvesA sv)) from set_set _ _ _ _]
  have hk3 : Keep [] H (H2.set (H.next + 2) (.cells true (halvesA sv))) := (k1.trans k2).trans' (Keep.set (S := [H.next + 2]) _ (.inr (by simp))) (by simp)
  have p0 : (H2.set (H.next + 2) (.cells true (halvesA sv))).get H.next = some (.cells true (halvesA sv)) := by rw [get_set_ne (by omega)]; exact k2.get (by omega) (by simp) g0
  have p1 : (H2.set (H.next + 2) (.cells true (halvesA sv))).get (H.next + 1) = some (.cells true z) := by rw [get_set_ne (by omega)]; exact k2.get (by omega) (by simp) g1
  have p2 : (H2.set (H.next + 2) (.cells true (halvesA sv))).get (H.next + 2) = some (.cells true (halvesA sv)) := get_set_same _ _ _
  have p3 : (H2.set (H.next + 2) (.cells true (halvesA sv))).get H1.next = some (.cells true [.sl b o n c 5]) := by rw [get_set_ne (by omega)]; exact q0
  have p4 : (H2.set (H.next + 2) (.cells true (halvesA sv))).get (H1.next + 1) = some (.cells true (padH [])) := by rw [get_set_ne (by omega)]; exact q1
  have p5 : (H2.set (H.next + 2) (.cells true (halvesA sv))).get (H1.next + 2) = some (.cells true [.int .i64 ((0 : Nat) : Int)]) := by rw [get_set_ne (by omega)]; exact q2
  have n3 : (H2.set (H.next + 2) (.cells true (halvesA sv))).next = H.next + 6 := by simp; omega
  generalize hH3 : H2.set (H.next + 2) (.cells true (halvesA sv)) = H3 at *
  have e64 := load_whole (n := 64) (hk3.get (by omega) (by simp) hKo) (by simpa using hQl)
  simp -dsimp only [e64, cX_block, cX_loop, regX_cons, regX_nil, evs, ev, Env.get, evX_some, Env.putO, Env.keep, outX_normal, optX_some, opX_move, Int.ofNat_eq_natCast]
  rw [loopX_eq]
  refine Wp.loop u2_mono (fun m e' H' => ∃ i s, i ≤ 64 ∧ m = 64 - i ∧ Keep [H.next + 2, H1.next + 2, H1.next + 1] H3 H' ∧ H'.get (H.next + 2) = some (.cells true (halvesA s)) ∧ H'.get (H1.next + 1) = some (.cells true (padH (S.take i))) ∧ H'.get (H1.next + 2) = some (.cells true [.int .i64 (i : Int)]) ∧ s.length = 8 ∧ rounds3 (Q.drop i) (S.drop i) s = rounds3 Q S sv ∧
    e' = [(2, .ptr H.next 0), (4, .ptr (H.next + 1) 0), (5, .fn 367 [] [.ptr (H1.next + 2) 0, .ptr H1.next 0, .ptr (H1.next + 1) 0]), (6, .ptr (H.next + 2) 0), (12, .agg (halvesA Q)), (13, .int .i64 i)]) ?_ 64 _ _ ⟨0, sv, by omega, rfl, Keep.refl _ _, p2, p4, p5, hs, rfl, rfl⟩
  rintro m e' H4 ⟨i, s, hi, rfl, k4, r2, r4, r5, hs8, hr, rfl⟩
  have n4 := k4.next
  simp -dsimp only [cX_seq, cX_reg, cX_cond, cX_block, cX_exit, cX_skip, regX_cons, regX_nil, evs, ev, Env.get, evX_some, Env.putO, Env.keep, outX_normal, outX_exit, optX_some, opX_bin, opX_load, opX_idxVal, bin_lss, brX_decide, Int.ofNat_eq_natCast, Int.toNat_natCast, Nat.mul_one]
  refine ⟨fun hlt => ?_, fun hge => ?_⟩
  · have ec : cell1 (halvesA Q) i = some (.int .u32 (Q.getD i 0 : Nat)) := halves_at (by omega)
    have es : H4.load (some 8) (H.next + 2) 0 = some (.agg (halvesA s)) := load_whole r2 (by simpa using hs8)
    have e0' : IntKind.i64.wrap ((i : Int) + ((1 : Nat) : Int)) = ((i + 1 : Nat) : Int) := by rw [wrap_i64 (by omega) (by omega)]; omega
    simp -dsimp only [ec, es, callu2_next, cX_dreg, regX_cons, regX_nil, dregX_pure kd_move, dregX_pure (kd_bin _), dregX_read (kd_load _), dregX_eff, flush, evs, ev, Env.get, evX_some, Env.putO, Env.keep, outX_normal, optX_some, opX_move, opX_bin, opX_call, opX_load, List.nil_append, List.append_nil, Nat.add_zero, heap_eta]
    refine ⟨by omega, ?_⟩
    have k43 : Keep [H.next + 2, H1.next + 2, H1.next + 1] H H4 := (hk3.mono (by simp)).trans k4
    refine next3_at hS r5 (k4.get (by omega) (by simp; omega) p3) r4 (k43.get hb' (by simp; omega) gb) hl hlen hn (by omega) (by omega) (by omega) (by omega) ?_
    intro H5 k5 s5 s4
    have n5 := k5.next
    have r25 := k5.get (b := H.next + 2) (by omega) (by simp; omega) r2
    have es5 : H5.load (some 8) (H.next + 2) 0 = some (.agg (halvesA s)) := load_whole r25 (by simpa using hs8)
    obtain ⟨xa, xb, xc, xd, xe, xf, xg, xh, rfl⟩ := list8h hs8
    simp -dsimp only [watched_many es5, callu2_round, dregX_eff, flush, watched_nil, watched_2_1, evs, ev, Env.get, evX_some, Env.putO, optX_some, opX_call, List.nil_append, List.append_nil, true_and, bin_add_u32]
    refine round3_w ?_
    intro H6 k6
    have n6 := k6.next
    have hs6 := round3_length (add3 (Q.getD i 0) (S.getD i 0)) hs8
    generalize hr6 : round3 (add3 (Q.getD i 0) (S.getD i 0)) [xa, xb, xc, xd, xe, xf, xg, xh] = s6 at *
    have r26 := k6.get (b := H.next + 2) (by omega) (by simp) r25
    have ew6 : H6.write (H.next + 2) 0 (halvesA s6) = some (H6.set (H.next + 2) (.cells true (halvesA s6))) := write_whole r26 (by simp [hs6])
    simp -dsimp only [ew6, e0', cX_reg, regX_cons, regX_nil, dregX_nil, flush, watched_nil, watched_3_1, evs, ev, Env.get, evX_some, Env.putO, Env.keep, outX_normal, optX_some, opX_move, opX_bin, opX_store_agg, bin_add_i64, Int.ofNat_eq_natCast, true_and]
    refine ⟨⟨by simpa using hs6, halvesA_one _⟩, 64 - (i + 1), by omega, i + 1, s6, by omega, rfl, ?_, get_set_same _ _ _, ?_, ?_, hs6, ?_, rfl⟩
    · exact ((k4.trans (k5.mono (fun b _ h => by simp at h ⊢; omega))).trans (k6.mono (by simp))).trans (Keep.set _ (.inr (by simp)))
    · rw [get_set_ne (by omega)]; exact k6.get (by omega) (by simp) s4
    · rw [get_set_ne (by omega)]; exact k6.get (by omega) (by simp) s5
    · rw [← hr, drop_getD3 (l := Q) (t := i) (by omega), drop_getD3 (l := S) (t := i) (by omega), rounds3_step, hr6]
  · have h64 : i = 64 := by omega
    subst h64
    have hsr : s = rounds3 Q S sv := by
      rw [← hr, List.drop_of_length_le (by omega), List.drop_of_length_le (by omega)]; rfl
    have es : H4.load (some 8) (H.next + 2) 0 = some (.agg (halvesA s)) := load_whole r2 (by simpa using hs8)
    have evv := load_whole (n := 8) (k4.get (by omega) (by simp; omega) p0) (by simpa using hs)
    have p14 := k4.get (b := H.next + 1) (by omega) (by simp; omega) p1
    have k04 : Keep [] H H4 := by
      refine (hk3.trans' k4 ?_)
      intro b hb; simp at hb ⊢; omega
    rw [← hsr] at hk
    clear hr hsr hC
    obtain ⟨xa, xb, xc, xd, xe, xf, xg, xh, rfl⟩ := list8h hs8
    obtain ⟨ya, yb, yc, yd, ye, yf, yg, yh, rfl⟩ := list8h hs
    simp -dsimp only [es, evv, callu2_plus, regX_cons, evs, ev, Env.get, evX_some, Env.putO, optX_some, opX_call, opX_load, List.nil_append, List.append_nil]
    refine plus3_w ?_
    intro H5 k5
    have n5 := k5.next
    have p15 := k5.get (b := H.next + 1) (by omega) (by simp) p14
    have ew : ∀ p q r s t u v y : Nat, H5.write (H.next + 1) 0 (halvesA [p, q, r, s, t, u, v, y]) = some (H5.set (H.next + 1) (.cells true (halvesA [p, q, r, s, t, u, v, y]))) := fun _ _ _ _ _ _ _ _ => write_whole p15 (by rw [hz]; rfl)
    have el2 : ∀ p q r s t u v y : Nat, (H5.set (H.next + 1) (.cells true (halvesA [p, q, r, s, t, u, v, y]))).load (some 8) (H.next + 1) 0 = some (.agg (halvesA [p, q, r, s, t, u, v, y])) := fun _ _ _ _ _ _ _ _ => load_whole (get_set_same _ _ _) rfl
    simp -dsimp only [ew, el2, cX_ret, regX_nil, Env.get, Env.putO, Env.keep, outX_normal, retX_ret, resultsA, resultsL, resultOf, optX_some, opX_store_agg]
    refine ⟨⟨rfl, halvesA_one _⟩, ?_⟩
    exact hk _ ((k04.trans k5).trans' (Keep.set (S := [H.next + 1]) _ (.inr (by simp))) (by simp))
end Go.AE
