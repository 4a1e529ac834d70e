/-
  Words turned, words of bytes.
-/
import Derived.Test.YtefkjiedgecjpaaGreatDoorAeW1
import Derived.Test.YtefkjiedgecjpaaGreatDoorAeW2
import Derived.Test.YtefkjiedgecjpaaGreatDoorAeSha
import Derived.Test.YtefkjiedgecjpaaGreatDoorAeTab
import Derived.Test.YtefkjiedgecjpaaGreatDoorAeS3
set_option linter.unusedSimpArgs false
set_option linter.unusedVariables false
set_option linter.unusedSectionVars false
namespace Go.AE
theorem tmono_of {t : PT FSpec} (h : PT.All (fun _ x => match x with | .code _ => True | .spec S => ∀ args H (K K' : AV → Heap → Prop), (∀ v H, K v H → K' v H) → S args H K → S args H K') t 0 1) : TMono t.get := by
  intro f S hf
  exact PT.all_get h hf
theorem tab_mono : TMono tab.get := tmono_of (by simp only [tab, PT.All, and_self])

theorem rotl_w {x n : Nat} (h0 : 0 < n) (h1 : n < 64) {H : Heap} {K : AV → Heap → Prop} (h : K (.int .u64 (rotr x n : Nat)) H) :
    Wp tab.get (.call 275 [.int .u64 x, .int .i64 (-(n : Int))] H K) := by
  refine Wp.fn tab_mono (show tab.get 275 = some (.code ir275) from rfl) rfl ?_
  simp -dsimp only [cX_seq, cX_reg, cX_ret, regX_cons, regX_nil, evs, ev, Env.get, evX_some, Env.putO, Env.keep, paramEnv, outX_normal, retX_ret, resultsA, resultsL, resultOf, optX_some, optX_ite', opX_move, opX_bin, opX_cvInt, bin_sub, bin_and, bin_or, bin_shl, bin_shr, Int.ofNat_eq_natCast, Nat.zero_add]
  have e1 : bits IntKind.u64 (fun x y => x &&& y) (IntKind.u64.wrap (-(n : Int))) ((63 : Nat) : Int) = ((64 - n : Nat) : Int) := by
    rw [wrap_u64_neg n h0 (by omega), bits_and' _ _ (by omega) (by omega)]
    congr 1
    rw [show 63 = 2 ^ 6 - 1 by rfl, Nat.and_two_pow_sub_one_eq_mod]
    omega
  have e2 : IntKind.u64.wrap (((64 : Nat) : Int) - ((64 - n : Nat) : Int)) = (n : Int) := by
    rw [wrap_u64 (by omega) (by omega)]; omega
  have e3 : (64 - n).min IntKind.u64.bits = 64 - n := Nat.min_eq_left (show 64 - n ≤ 64 by omega)
  have e4 : n.min IntKind.u64.bits = n := Nat.min_eq_left (show n ≤ 64 by omega)
  have e5 : IntKind.u64.wrap ((x : Int) * 2 ^ (64 - n)) = ((x * 2 ^ (64 - n) % 18446744073709551616 : Nat) : Int) := by
    rw [← wrap_u64_nat]; simp
  have e6 : (x : Int).fdiv (2 ^ n) = ((x / 2 ^ n : Nat) : Int) := by
    rw [Int.fdiv_eq_ediv_of_nonneg _ (Int.pow_nonneg (by decide))]; simp
  have n1 : ¬ (((64 - n : Nat) : Int) < 0) := by omega
  have n2 : ¬ ((n : Int) < 0) := by omega
  simp -dsimp only [e1, e2, n1, n2, not_false_eq_true, Int.toNat_natCast, true_and]
  rw [e3, e4, e5, e6, bits_or_nat]
  exact h

theorem right_w {x n : Nat} (h0 : 0 < n) (h1 : n < 64) {H : Heap} {K : AV → Heap → Prop} (h : K (.int .u64 (rotr x n : Nat)) H) :
    Wp tab.get (.call 242 [.int .u64 x, .int .i64 n] H K) := by
  refine Wp.fn tab_mono (show tab.get 242 = some (.code ir242) from rfl) rfl ?_
  simp -dsimp only [un_neg, cX_seq, cX_reg, regX_cons, regX_nil, evs, ev, Env.get, evX_some, Env.putO, Env.keep, paramEnv, outX_normal, optX_some, opX_move, opX_un, opX_call, List.nil_append, List.append_nil, Int.ofNat_eq_natCast, Nat.zero_add]
  have e0 : IntKind.i64.wrap ((0 : Int) - n) = -(n : Int) := by rw [wrap_i64 (by omega) (by omega)]; omega
  rw [e0, callX_eq]
  refine rotl_w h0 h1 ?_
  simp -dsimp only [cX_ret, regX_cons, regX_nil, evs, ev, Env.get, evX_some, Env.putO, Env.keep, outX_normal, retX_ret, resultsA, resultsL, resultOf, optX_some, opX_move]
  exact h

theorem wordN_snoc (l : List Nat) (b : Nat) : wordN (l ++ [b]) = bor (wordN l * 256 % 18446744073709551616) (b % 18446744073709551616) := by simp [wordN]; rfl
theorem take_snoc {α : Type} {l : List α} {i : Nat} (h : i < l.length) : l.take (i + 1) = l.take i ++ [l[i]] := (List.take_append_getElem h).symm

theorem word_w {b o n e : Nat} {c : Option Nat} {w : Bool} {cs l : List Nat} {H : Heap} {K : AV → Heap → Prop} (hb : H.get b = some (.cells w (bytesA cs))) (hn : 8 ≤ n) (hl : (cs.drop o).take 8 = l) (hlen : o + 8 ≤ cs.length)
    (h : K (.int .u64 (wordN l : Nat)) H) : Wp tab.get (.call 212 [.sl b o n c e] H K) := by
  refine Wp.fn tab_mono (show tab.get 212 = some (.code ir212) from rfl) rfl ?_
  simp -dsimp only [cX_seq, cX_reg, cX_block, cX_loop, regX_cons, regX_nil, evs, ev, Env.get, evX_some, Env.putO, Env.keep, paramEnv, outX_normal, opX_move, Int.ofNat_eq_natCast]
  have hll : l.length = 8 := by rw [← hl]; simp; omega
  rw [loopX_eq]
  refine Wp.loop tab_mono (fun m e' H' => ∃ i, i ≤ 8 ∧ m = 8 - i ∧ H' = H ∧ e' = [(0, .sl b o n c e), (3, .int .u64 (wordN (l.take i) : Nat)), (5, .int .i64 i)]) ?_ 8 _ _ ⟨0, by omega, rfl, rfl, by simp [wordN]⟩
  rintro m e' H' ⟨i, hi, rfl, rfl, rfl⟩
  simp -dsimp only [cX_seq, cX_reg, cX_cond, cX_block, cX_exit, cX_ret, cX_skip, regX_cons, regX_nil, evs, ev, Env.get, evX_some, Env.putO, Env.keep, outX_normal, outX_exit, retX_ret, resultsA, resultsL, resultOf, optX_some, opX_move, opX_bin, opX_load, opX_idxSl, bin_shl_u64, bin_lss, brX_decide, Int.ofNat_eq_natCast, Int.toNat_natCast, Nat.mul_one]
  refine ⟨fun hi8 => ?_, fun hge => ?_⟩
  · have e1 : cs[o + i]'(by omega) = l[i]'(by omega) := by subst hl; simp
    have hld : H'.load none b (o + i) = some (.int .u8 ((l[i]'(by omega) : Nat) : Int)) := by
      rw [load_one hb, cell1_eq (by simp; omega), bytesA_get, e1]
    have e0 : IntKind.i64.wrap ((i : Int) + ((1 : Nat) : Int)) = ((i + 1 : Nat) : Int) := by rw [wrap_i64 (by omega) (by omega)]; omega
    simp -dsimp only [hld, e0, cX_reg, regX_cons, regX_nil, evs, ev, Env.get, evX_some, Env.putO, Env.keep, outX_normal, optX_some, opX_move, opX_bin, bin_add_i64, bin_or_u64, opX_cvU64, Int.ofNat_eq_natCast, true_and]
    refine ⟨⟨by omega, by omega⟩, 8 - (i + 1), by omega, i + 1, by omega, rfl, ?_⟩
    rw [take_snoc (by omega), wordN_snoc]
    rfl
  · have : i = 8 := by omega
    subst this
    rw [List.take_of_length_le (by omega)]
    exact h

theorem layN_get (w i : Nat) (h : i < (layN w).length) : (layN w)[i] = w / 2 ^ (56 - 8 * i) % 256 := by
  match i, h with
  | 0, _ => rfl
  | 1, _ => rfl
  | 2, _ => rfl
  | 3, _ => rfl
  | 4, _ => rfl
  | 5, _ => rfl
  | 6, _ => rfl
  | 7, _ => simp [layN]
theorem layN_length (w : Nat) : (layN w).length = 8 := rfl

theorem lay_w {s : AV} {n w : Nat} {l : List Nat} {H : Heap} {K : AV → Heap → Prop} (hs : Ex H 5 1 s n (bytesA l)) (hn : n + 8 ≤ 2 ^ 40)
    (h : ∀ s' H', Acc 5 1 s H H' s' (n + 8) (bytesA (l ++ layN w)) → K s' H') : Wp tab.get (.call 211 [s, .int .u64 w] H K) := by
  refine Wp.fn tab_mono (show tab.get 211 = some (.code ir211) from rfl) rfl ?_
  simp -dsimp only [cX_seq, cX_reg, cX_block, cX_loop, regX_cons, regX_nil, evs, ev, Env.get, evX_some, Env.putO, Env.keep, paramEnv, outX_normal, opX_move, Int.ofNat_eq_natCast, Nat.zero_add]
  rw [loopX_eq]
  refine Wp.loop tab_mono (fun m e' H' => ∃ i s', i ≤ 8 ∧ m = 8 - i ∧ Acc 5 1 s H H' s' (n + i) (bytesA (l ++ (layN w).take i)) ∧ e' = [(0, s'), (1, .int .u64 w), (6, .int .i64 i)]) ?_ 8 _ _ ⟨0, s, by omega, rfl, by simpa using Acc.refl hs, rfl⟩
  rintro m e' H' ⟨i, s', hi, rfl, ha, rfl⟩
  simp -dsimp only [cX_seq, cX_reg, cX_cond, cX_block, cX_exit, cX_ret, cX_skip, regX_cons, regX_nil, evs, ev, Env.get, evX_some, Env.putO, Env.keep, outX_normal, outX_exit, retX_ret, resultsA, resultsL, resultOf, optX_some, opX_move, opX_bin, bin_sub_i64, bin_mul_i64, bin_lss, brX_decide, Int.ofNat_eq_natCast]
  refine ⟨fun hi8 => ?_, fun hge => ?_⟩
  · have e1 : IntKind.i64.wrap (((56 : Nat) : Int) - IntKind.i64.wrap (((8 : Nat) : Int) * (i : Int))) = ((56 - 8 * i : Nat) : Int) := by
      rw [wrap_i64 (n := ((8 : Nat) : Int) * (i : Int)) (by omega) (by omega), wrap_i64 (by omega) (by omega)]; omega
    rw [e1]
    simp -dsimp only [opX_buildSlice, opX_append, fill_int, src_one, regX_cons, evs, ev, Env.get, evX_some, Env.putO, optX_some, bin_shr_nat, opX_cvU8, Int.ofNat_eq_natCast]
    obtain ⟨s2, H2, g1, g2, g3⟩ := ha.app1 (y := 1) (.int .u8 ((w / 2 ^ (56 - 8 * i).min IntKind.u64.bits % 256 : Nat) : Int)) (.cells true [.int .u8 ((w / 2 ^ (56 - 8 * i).min IntKind.u64.bits % 256 : Nat) : Int)]) (by omega)
    rw [g1]
    simp -dsimp only [cX_reg, regX_cons, regX_nil, evs, ev, Env.get, evX_some, Env.putO, Env.keep, outX_normal, optX_some, opX_move, opX_bin, bin_add_i64, Int.ofNat_eq_natCast]
    refine ⟨8 - (i + 1), by omega, i + 1, s2, by omega, rfl, ?_, ?_⟩
    · have e2 : (56 - 8 * i).min IntKind.u64.bits = 56 - 8 * i := Nat.min_eq_left (show 56 - 8 * i ≤ 64 by omega)
      have e3 : l ++ (layN w).take (i + 1) = (l ++ (layN w).take i) ++ [w / 2 ^ (56 - 8 * i) % 256] := by
        rw [take_snoc (by rw [layN_length]; omega), layN_get, List.append_assoc]
      rw [e3, bytesA_append]
      rw [e2] at g2
      exact g2
    · rw [wrap_i64 (by omega) (by omega)]; rfl
  · have : i = 8 := by omega
    subst this
    rw [List.take_of_length_le (by simp [layN_length])] at ha
    exact h s' H' ha
end Go.AE
