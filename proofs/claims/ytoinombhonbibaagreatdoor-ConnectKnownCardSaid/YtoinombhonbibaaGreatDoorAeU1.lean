/-
  SHA-256: numbers turned, a round.
-/
import Derived.Test.YtoinombhonbibaaGreatDoorAeV1
import Derived.Test.YtoinombhonbibaaGreatDoorAeW3
set_option linter.unusedSimpArgs false
set_option linter.unusedVariables false
set_option linter.unusedSectionVars false
set_option maxHeartbeats 4000000
namespace Go.AE
theorem rotl3_w {x n : Nat} (h0 : 0 < n) (h1 : n < 32) {H : Heap} {K : AV → Heap → Prop} (h : K (.int .u32 (rot3 x n : Nat)) H) :
    Wp tab.get (.call 370 [.int .u32 x, .int .i64 (-(n : Int))] H K) := by
  refine Wp.fn tab_mono (show tab.get 370 = some (.code ir370) from rfl) rfl ?_
  simp -dsimp only [cX_seq, cX_reg, cX_ret, regX_cons, regX_nil, evs, ev, Env.get, evX_some, Env.putO, Env.keep, paramEnv, outX_normal, retX_ret, resultsA, resultsL, resultOf, optX_some, optX_ite', opX_move, opX_bin, opX_cvInt, bin_sub, bin_and, bin_or, bin_shl, bin_shr, Int.ofNat_eq_natCast, Nat.zero_add]
  have e1 : bits IntKind.u64 (fun x y => x &&& y) (IntKind.u64.wrap (-(n : Int))) ((31 : Nat) : Int) = ((32 - n : Nat) : Int) := by
    rw [wrap_u64_neg n h0 (by omega), bits_and' _ _ (by omega) (by omega)]
    congr 1
    rw [show 31 = 2 ^ 5 - 1 by rfl, Nat.and_two_pow_sub_one_eq_mod]
    omega
  have e2 : IntKind.u64.wrap (((32 : Nat) : Int) - ((32 - n : Nat) : Int)) = (n : Int) := by
    rw [wrap_u64 (by omega) (by omega)]; omega
  have e3 : (32 - n).min IntKind.u32.bits = 32 - n := Nat.min_eq_left (show 32 - n ≤ 32 by omega)
  have e4 : n.min IntKind.u32.bits = n := Nat.min_eq_left (show n ≤ 32 by omega)
  have e5 : IntKind.u32.wrap ((x : Int) * 2 ^ (32 - n)) = ((x * 2 ^ (32 - n) % 4294967296 : Nat) : Int) := by
    rw [← wrap_u32_nat]; simp
  have e6 : (x : Int).fdiv (2 ^ n) = ((x / 2 ^ n : Nat) : Int) := by
    rw [Int.fdiv_eq_ediv_of_nonneg _ (Int.pow_nonneg (by decide))]; simp
  have n1 : ¬ (((32 - n : Nat) : Int) < 0) := by omega
  have n2 : ¬ ((n : Int) < 0) := by omega
  simp -dsimp only [e1, e2, n1, n2, not_false_eq_true, Int.toNat_natCast, true_and]
  rw [e3, e4, e5, e6, bits_or_u32]
  exact h

theorem turned_w {x b m e : Nat} {c : Option Nat} {w : Bool} {l : List Nat} {H : Heap} {K : AV → Heap → Prop} (hb : H.get b = some (.cells w (intsA l))) (hm : l.length = m) (hl : ∀ n ∈ l, 0 < n ∧ n < 32) (hm2 : m ≤ 1000)
    (h : K (.int .u32 (turnN x l 0 : Nat)) H) : Wp tab.get (.call 368 [.int .u32 x, .sl b 0 m c e] H K) := by
  refine Wp.fn tab_mono (show tab.get 368 = some (.code ir368) from rfl) rfl ?_
  simp -dsimp only [cX_seq, cX_reg, cX_block, cX_loop, regX_cons, regX_nil, evs, ev, Env.get, evX_some, Env.putO, Env.keep, paramEnv, outX_normal, opX_move, opX_len_sl, Int.ofNat_eq_natCast, Nat.zero_add]
  subst hm
  rw [loopX_eq]
  refine Wp.loop tab_mono (fun m' e' H' => ∃ i y, i ≤ l.length ∧ m' = l.length - i ∧ H' = H ∧ turnN x (l.drop i) y = turnN x l 0 ∧ e' = [(0, .int .u32 x), (4, .int .u32 (y : Nat)), (7, .sl b 0 l.length c e), (8, .int .i64 l.length), (9, .int .i64 i)]) ?_ l.length _ _ ⟨0, 0, by omega, rfl, rfl, rfl, rfl⟩
  rintro m' e' H' ⟨i, y, hi, rfl, rfl, hy, rfl⟩
  simp -dsimp only [cX_seq, cX_reg, cX_cond, cX_block, cX_exit, cX_ret, cX_skip, regX_cons, regX_nil, evs, ev, Env.get, evX_some, Env.putO, Env.keep, outX_normal, outX_exit, retX_ret, resultsA, resultsL, resultOf, optX_some, opX_move, opX_bin, opX_load, opX_idxSl, bin_lss, brX_decide, Int.toNat_natCast, Nat.mul_one, Nat.zero_add]
  refine ⟨fun hlt => ?_, fun hge => ?_⟩
  · have hil : i < l.length := by omega
    have hld : H'.load none b i = some (.int .i64 ((l[i] : Nat) : Int)) := by rw [load_one hb, ints_at hil]
    have e0 : IntKind.i64.wrap ((i : Int) + ((1 : Nat) : Int)) = ((i + 1 : Nat) : Int) := by rw [wrap_i64 (by omega) (by omega)]; omega
    have hli := hl l[i] (List.getElem_mem hil)
    have e1 : IntKind.i64.wrap ((0 : Int) - ((l[i] : Nat) : Int)) = -((l[i] : Nat) : Int) := by rw [wrap_i64 (by omega) (by omega)]; omega
    simp -dsimp only [hld, un_neg, e1, cX_reg, regX_cons, regX_nil, evs, ev, Env.get, evX_some, Env.putO, Env.keep, outX_normal, optX_some, opX_move, opX_un, opX_call, List.nil_append, List.append_nil]
    refine ⟨by omega, ?_⟩
    rw [callX_eq]
    refine rotl3_w hli.1 hli.2 ?_
    simp -dsimp only [e0, cX_reg, regX_cons, regX_nil, evs, ev, Env.get, evX_some, Env.putO, Env.keep, outX_normal, optX_some, opX_move, opX_bin, bin_add_i64, Int.ofNat_eq_natCast, true_and, bin_xor_u32]
    refine ⟨l.length - (i + 1), by omega, i + 1, _, by omega, rfl, ?_, rfl⟩
    rw [← hy, drop_getD3 hil]
    simp only [turnN, List.getD_eq_getElem?_getD, List.getElem?_eq_getElem hil, Option.getD_some]
  · have : i = l.length := by omega
    subst this
    rw [List.drop_length] at hy
    rw [← hy] at h
    exact h
end Go.AE

/-
  SHA-256: a round, a chunk's numbers, a chunk's change.
-/
set_option maxHeartbeats 4000000
namespace Go.AE
/-- numbers turned by contract. -/
def u1 : Nat → Option FSpec := over tab.get 368 (low tab.get 368)
theorem u1_mono : TMono u1 := tab_mono.over low_mono
theorem callu_turned (args : List AV) (H : Heap) (K : AV → Heap → Prop) : callX (Wp u1) 368 args H K = Wp tab.get (.call 368 args H K) := by
  rw [call_spec u1_mono (f := 368) (S := low tab.get 368) rfl]; rfl

theorem load_mk (n : Nat) (X : Heap) (m : Option Nat) (b o : Nat) : (⟨n, X.mem⟩ : Heap).load m b o = X.load m b o := rfl
theorem keep_mk (H : Heap) (n : Nat) : Keep [] H ⟨H.next + n, H.mem⟩ := ⟨Nat.le_add_right _ _, fun _ _ _ => rfl⟩
theorem get_mkh (n : Nat) (X : Heap) (b : Nat) : (⟨n, X.mem⟩ : Heap).get b = X.get b := rfl
theorem watched_hit {k hi b o : Nat} {H : Heap} {j : IntKind} {n : Int} {r : List Watch} (h : H.load none b o = some (.int j n)) : watched k H (⟨hi, .load none, [.ptr b o], .int j n⟩ :: r) = watched k H r := by
  simp [watched, readOp, h, AV.beq]
theorem halves_write {H : Heap} {b n w : Nat} {l : List Nat} (hb : H.get b = some (.cells true (halvesA l))) (h : n < l.length) : H.write b n [.int .u32 (w : Int)] = some (H.set b (.cells true (halvesA (l.set n w)))) := by
  rw [write_one hb (by simpa using h), halvesA_set]
theorem halves_write_set {H : Heap} {b n : Nat} {l : List Nat} (w : Nat) (h : n < l.length) : (H.set b (.cells true (halvesA l))).write b n [.int .u32 (w : Int)] = some (H.set b (.cells true (halvesA (l.set n w)))) := by
  rw [halves_write (get_set_same _ _ _) h, set_set]
theorem round3_w {a b c d e f g h x : Nat} {H : Heap} {K : AV → Heap → Prop} (hk : ∀ H', Keep [] H H' → K (.agg (halvesA (round3 x [a, b, c, d, e, f, g, h]))) H') :
    Wp u1 (.call 362 [.agg (halvesA [a, b, c, d, e, f, g, h]), .int .u32 x] H K) := by
  refine Wp.fn u1_mono (show u1 362 = some (.code ir362) from rfl) rfl ?_
  have a1 : allocOp (.buildSlice 3 3 [.int .i64 ((0 : Nat) : Int)] [(0, 1), (1, 1), (2, 1)]) [.int .i64 ((6 : Nat) : Int), .int .i64 ((11 : Nat) : Int), .int .i64 ((25 : Nat) : Int)] = some (fun b => .sl b 0 3 (some 3) 3, .cells true (intsA [6, 11, 25])) := rfl
  have a2 : allocOp (.buildSlice 3 3 [.int .i64 ((0 : Nat) : Int)] [(0, 1), (1, 1), (2, 1)]) [.int .i64 ((2 : Nat) : Int), .int .i64 ((13 : Nat) : Int), .int .i64 ((22 : Nat) : Int)] = some (fun b => .sl b 0 3 (some 3) 3, .cells true (intsA [2, 13, 22])) := rfl
  have hl : ∀ Z o, ((H.push (.cells true (halvesA [a, b, c, d, e, f, g, h]))).push Z).load none H.next o = cell1 (halvesA [a, b, c, d, e, f, g, h]) o := fun Z o => load_one (by rw [get_push_old (by simp), get_push_new])
  simp -dsimp only [a1, hl, load_mk, halves_zero, halves_succ, callu_turned, cX_seq, cX_reg, cX_dreg, regX_cons, regX_nil, dregX_pure kd_move, dregX_pure (kd_bin _), dregX_pure (kd_un _), dregX_pure (kd_fieldAddr _), dregX_read (kd_load _), dregX_alloc, dregX_eff, flush, evs, ev, Env.get, evX_some, Env.putO, Env.keep, paramEnv, outX_normal, optX_some, opX_move, opX_bin, opX_un, opX_call, opX_load, opX_alloc, opX_box_agg, opX_fieldAddr, List.nil_append, List.append_nil, Int.ofNat_eq_natCast, Nat.add_zero, Nat.zero_add, Heap.next_push, bin_and_u32, bin_or_u32, un_xor_u32]
  refine ⟨halvesA_one _, ?_⟩
  generalize hZ : (AObj.cells true [AV.int IntKind.u32 ((0 : Nat) : Int), _, _, _, _, _, _, _]) = Z
  have hZ' : ∃ z, Z = .cells true z ∧ z.length = 8 := ⟨_, hZ.symm, rfl⟩
  clear hZ
  obtain ⟨z, rfl, hz⟩ := hZ'
  generalize hH2 : Heap.set _ (H.next + 2) _ = H2
  have k2 : Keep [] H H2 := by
    rw [← hH2]
    exact ((((Keep.push _ _ _).trans (Keep.push _ _ _)).trans (keep_mk ((H.push _).push _) 1)).trans' (Keep.set (S := [H.next + 2]) _ (.inr (by simp))) (by simp))
  have g0 : H2.get H.next = some (.cells true (halvesA [a, b, c, d, e, f, g, h])) := by
    rw [← hH2, get_set_ne (by omega), get_mkh, get_push_old (by simp), get_push_new]
  have g1 : H2.get (H.next + 1) = some (.cells true z) := by
    rw [← hH2, get_set_ne (by omega), get_mkh]; exact get_push_new (H.push _) _
  have g2 : H2.get (H.next + 2) = some (.cells true (intsA [6, 11, 25])) := by
    rw [← hH2]; exact get_set_same _ _ _
  have n2 : H2.next = H.next + 3 := by rw [← hH2]; simp
  have hl2 : ∀ o, H2.load none H.next o = cell1 (halvesA [a, b, c, d, e, f, g, h]) o := fun o => load_one g0
  refine turned_w (l := [6, 11, 25]) g2 rfl (by decide) (by decide) ?_
  simp -dsimp only [a2, hl2, load_mk, halves_zero, halves_succ, watched_hit, mk_push, callu_turned, cX_seq, cX_dreg, dregX_nil, dregX_pure kd_move, dregX_pure (kd_bin _), dregX_pure (kd_fieldAddr _), dregX_read (kd_load _), dregX_alloc, dregX_eff, flush, watched_nil, evs, ev, Env.get, evX_some, Env.putO, Env.keep, outX_normal, optX_some, opX_move, opX_bin, opX_call, opX_load, opX_fieldAddr, List.nil_append, List.append_nil, Int.ofNat_eq_natCast, Nat.add_zero, Nat.zero_add, true_and, bin_add_u32, bin_and_u32, bin_or_u32]
  generalize hH3 : Heap.push H2 _ = H3
  have k3 : Keep [] H2 H3 := by rw [← hH3]; exact Keep.push _ _ _
  have g0' : H3.get H.next = some (.cells true (halvesA [a, b, c, d, e, f, g, h])) := k3.get (by omega) (by simp) g0
  have g1' : H3.get (H.next + 1) = some (.cells true z) := k3.get (by omega) (by simp) g1
  have g3 : H3.get H2.next = some (.cells true (intsA [2, 13, 22])) := by
    rw [← hH3]; exact get_push_new _ _
  have hl3 : ∀ o, H3.load none H.next o = cell1 (halvesA [a, b, c, d, e, f, g, h]) o := fun o => load_one g0'
  refine turned_w (l := [2, 13, 22]) g3 rfl (by decide) (by decide) ?_
  have ew0 : ∀ w : Nat, H3.write H.next 0 [.int .u32 w] = some (H3.set H.next (.cells true (halvesA [w, b, c, d, e, f, g, h]))) := fun w => halves_write g0' (by simp)
  have ew1 : ∀ p q r s t u v y w : Nat, (H3.set H.next (.cells true (halvesA [p, q, r, s, t, u, v, y]))).write H.next 1 [.int .u32 w] = some (H3.set H.next (.cells true (halvesA [p, w, r, s, t, u, v, y]))) := fun _ _ _ _ _ _ _ _ w => halves_write_set w (by simp)
  have ew2 : ∀ p q r s t u v y w : Nat, (H3.set H.next (.cells true (halvesA [p, q, r, s, t, u, v, y]))).write H.next 2 [.int .u32 w] = some (H3.set H.next (.cells true (halvesA [p, q, w, s, t, u, v, y]))) := fun _ _ _ _ _ _ _ _ w => halves_write_set w (by simp)
  have ew3 : ∀ p q r s t u v y w : Nat, (H3.set H.next (.cells true (halvesA [p, q, r, s, t, u, v, y]))).write H.next 3 [.int .u32 w] = some (H3.set H.next (.cells true (halvesA [p, q, r, w, t, u, v, y]))) := fun _ _ _ _ _ _ _ _ w => halves_write_set w (by simp)
  have ew4 : ∀ p q r s t u v y w : Nat, (H3.set H.next (.cells true (halvesA [p, q, r, s, t, u, v, y]))).write H.next 4 [.int .u32 w] = some (H3.set H.next (.cells true (halvesA [p, q, r, s, w, u, v, y]))) := fun _ _ _ _ _ _ _ _ w => halves_write_set w (by simp)
  have ew5 : ∀ p q r s t u v y w : Nat, (H3.set H.next (.cells true (halvesA [p, q, r, s, t, u, v, y]))).write H.next 5 [.int .u32 w] = some (H3.set H.next (.cells true (halvesA [p, q, r, s, t, w, v, y]))) := fun _ _ _ _ _ _ _ _ w => halves_write_set w (by simp)
  have ew6 : ∀ p q r s t u v y w : Nat, (H3.set H.next (.cells true (halvesA [p, q, r, s, t, u, v, y]))).write H.next 6 [.int .u32 w] = some (H3.set H.next (.cells true (halvesA [p, q, r, s, t, u, w, y]))) := fun _ _ _ _ _ _ _ _ w => halves_write_set w (by simp)
  have ew7 : ∀ p q r s t u v y w : Nat, (H3.set H.next (.cells true (halvesA [p, q, r, s, t, u, v, y]))).write H.next 7 [.int .u32 w] = some (H3.set H.next (.cells true (halvesA [p, q, r, s, t, u, v, w]))) := fun _ _ _ _ _ _ _ _ w => halves_write_set w (by simp)
  have el : ∀ p q r s t u v y : Nat, (H3.set H.next (.cells true (halvesA [p, q, r, s, t, u, v, y]))).load (some 8) H.next 0 = some (.agg (halvesA [p, q, r, s, t, u, v, y])) := fun _ _ _ _ _ _ _ _ => load_whole (get_set_same _ _ _) rfl
  have g1s : ∀ l : List Nat, (H3.set H.next (.cells true (halvesA l))).get (H.next + 1) = some (.cells true z) := fun l => by rw [get_set_ne (by omega)]; exact g1'
  have ew : ∀ p q r s t u v y : Nat, (H3.set H.next (.cells true (halvesA [p, q, r, s, t, u, v, y]))).write (H.next + 1) 0 (halvesA [p, q, r, s, t, u, v, y]) = some ((H3.set H.next (.cells true (halvesA [p, q, r, s, t, u, v, y]))).set (H.next + 1) (.cells true (halvesA [p, q, r, s, t, u, v, y]))) := fun p q r s t u v y => write_whole (g1s _) (by rw [hz]; rfl)
  have el2 : ∀ p q r s t u v y : Nat, ((H3.set H.next (.cells true (halvesA [p, q, r, s, t, u, v, y]))).set (H.next + 1) (.cells true (halvesA [p, q, r, s, t, u, v, y]))).load (some 8) (H.next + 1) 0 = some (.agg (halvesA [p, q, r, s, t, u, v, y])) := fun _ _ _ _ _ _ _ _ => load_whole (get_set_same _ _ _) rfl
  simp -dsimp only [hl3, halves_zero, halves_succ, watched_hit, ew0, ew1, ew2, ew3, ew4, ew5, ew6, ew7, el, ew, el2, cX_seq, cX_reg, cX_ret, regX_cons, regX_nil, dregX_nil, dregX_pure kd_move, flush, watched_nil, evs, ev, Env.get, evX_some, Env.putO, Env.keep, outX_normal, retX_ret, resultsA, resultsL, resultOf, optX_some, opX_move, opX_bin, opX_load, opX_store_agg, opX_store_int, opX_fieldAddr, Nat.add_zero, Nat.zero_add, true_and, bin_add_u32]
  refine ⟨⟨rfl, halvesA_one _⟩, ?_⟩
  have := hk ((H3.set H.next (.cells true (halvesA (round3 x [a, b, c, d, e, f, g, h])))).set (H.next + 1) (.cells true (halvesA (round3 x [a, b, c, d, e, f, g, h])))) (((k2.trans k3).trans' (Keep.set (S := [H.next]) _ (.inr (by simp))) (by simp)).trans' (Keep.set (S := [H.next + 1]) _ (.inr (by simp))) (by simp))
  rw [round3_8] at this
  exact this
end Go.AE
