/-
  Words turned, words of bytes.
-/
import Derived.Test.YtoinombhonbibaaGreatDoorAeW1
import Derived.Test.YtoinombhonbibaaGreatDoorAeSha
import Derived.Test.YtoinombhonbibaaGreatDoorAeTab
import Derived.Test.YtoinombhonbibaaGreatDoorAeS1
set_option linter.unusedSimpArgs false
set_option linter.unusedVariables false
set_option linter.unusedSectionVars false
namespace Go.AE
theorem tmono_of {t : PT FSpec} (h : PT.All (fun _ x => match x with | .code _ => True | .spec S => ∀ args H (K K' : AV → Heap → Prop), (∀ v H, K v H → K' v H) → S args H K → S args H K') t 0 1) : TMono t.get := by
  intro f S hf
  exact PT.all_get h hf
theorem tab_mono : TMono tab.get := tmono_of (by simp only [tab, PT.All, and_self])

theorem rotl_w {x n : Nat} (h0 : 0 < n) (h1 : n < 64) {H : Heap} {K : AV → Heap → Prop} (h : K (.int .u64 (rotr x n : Nat)) H) :
    Wp tab.get (.call 343 [.int .u64 x, .int .i64 (-(n : Int))] H K) := by
  refine Wp.fn tab_mono (show tab.get 343 = some (.code ir343) from rfl) rfl ?_
  simp -dsimp only [cX_seq, cX_reg, cX_ret, regX_cons, regX_nil, evs, ev, Env.get, evX_some, Env.putO, Env.keep, paramEnv, outX_normal, retX_ret, resultsA, resultsL, resultOf, optX_some, optX_ite', opX_move, opX_bin, opX_cvInt, bin_sub, bin_and, bin_or, bin_shl, bin_shr, Int.ofNat_eq_natCast, Nat.zero_add]
  have e1 : bits IntKind.u64 (fun x y => x &&& y) (IntKind.u64.wrap (-(n : Int))) ((63 : Nat) : Int) = ((64 - n : Nat) : Int) := by
    rw [wrap_u64_neg n h0 (by omega), bits_and' _ _ (by omega) (by omega)]
    congr 1
    rw [show 63 = 2 ^ 6 - 1 by rfl, Nat.and_two_pow_sub_one_eq_mod]
    omega
  have e2 : IntKind.u64.wrap (((64 : Nat) : Int) - ((64 - n : Nat) : Int)) = (n : Int) := by
    rw [wrap_u64 (by omega) (by omega)]; omega
  have e3 : (64 - n).min IntKind.u64.bits = 64 - n := Nat.min_eq_left (show 64 - n ≤ 64 by omega)
  have e4 : n.min IntKind.u64.bits = n := Nat.min_eq_left (show n ≤ 64 by omega)
  have e5 : IntKind.u64.wrap ((x : Int) * 2 ^ (64 - n)) = ((x * 2 ^ (64 - n) % 18446744073709551616 : Nat) : Int) := by
    rw [← wrap_u64_nat]; simp
  have e6 : (x : Int).fdiv (2 ^ n) = ((x / 2 ^ n : Nat) : Int) := by
    rw [Int.fdiv_eq_ediv_of_nonneg _ (Int.pow_nonneg (by decide))]; simp
  have n1 : ¬ (((64 - n : Nat) : Int) < 0) := by omega
  have n2 : ¬ ((n : Int) < 0) := by omega
  simp -dsimp only [e1, e2, n1, n2, not_false_eq_true, Int.toNat_natCast, true_and]
  rw [e3, e4, e5, e6, bits_or_nat]
  exact h

theorem right_w {x n : Nat} (h0 : 0 < n) (h1 : n < 64) {H : Heap} {K : AV → Heap → Prop} (h : K (.int .u64 (rotr x n : Nat)) H) :
    Wp tab.get (.call 316 [.int .u64 x, .int .i64 n] H K) := by
  refine Wp.fn tab_mono (show tab.get 316 = some (.code ir316) from rfl) rfl ?_
  simp -dsimp only [un_neg, cX_seq, cX_reg, regX_cons, regX_nil, evs, ev, Env.get, evX_some, Env.putO, Env.keep, paramEnv, outX_normal, optX_some, opX_move, opX_un, opX_call, List.nil_append, List.append_nil, Int.ofNat_eq_natCast, Nat.zero_add]
  have e0 : IntKind.i64.wrap ((0 : Int) - n) = -(n : Int) := by rw [wrap_i64 (by omega) (by omega)]; omega
  rw [e0, callX_eq]
  refine rotl_w h0 h1 ?_
  simp -dsimp only [cX_ret, regX_cons, regX_nil, evs, ev, Env.get, evX_some, Env.putO, Env.keep, outX_normal, retX_ret, resultsA, resultsL, resultOf, optX_some, opX_move]
  exact h

theorem wordN_snoc (l : List Nat) (b : Nat) : wordN (l ++ [b]) = bor (wordN l * 256 % 18446744073709551616) (b % 18446744073709551616) := by simp [wordN]; rfl
theorem take_snoc {α : Type} {l : List α} {i : Nat} (h : i < l.length) : l.take (i + 1) = l.take i ++ [l[i]] := (List.take_append_getElem h).symm

theorem word_w {b o n e : Nat} {c : Option Nat} {w : Bool} {cs l : List Nat} {H : Heap} {K : AV → Heap → Prop} (hb : H.get b = some (.cells w (bytesA cs))) (hn : 8 ≤ n) (hl : (cs.drop o).take 8 = l) (hlen : o + 8 ≤ cs.length)
    (h : K (.int .u64 (wordN l : Nat)) H) : Wp tab.get (.call 262 [.sl b o n c e] H K) := by
  refine Wp.fn tab_mono (show tab.get 262 = some (.code ir262) from rfl) rfl ?_
  simp -dsimp only [cX_seq, cX_reg, cX_block, cX_loop, regX_cons, regX_nil, evs, ev, Env.get, evX_some, Env.putO, Env.keep, paramEnv, outX_normal, opX_move, Int.ofNat_eq_natCast]
  have hll : l.length = 8 := by rw [← hl]; simp; omega
  rw [loopX_eq]
  refine Wp.loop tab_mono (fun m e' H' => ∃ i, i ≤ 8 ∧ m = 8 - i ∧ H' = H ∧ e' = [(0, .sl b o n c e), (3, .int .u64 (wordN (l.take i) : Nat)), (5, .int .i64 i)]) ?_ 8 _ _ ⟨0, by omega, rfl, rfl, by simp [wordN]⟩
  rintro m e' H' ⟨i, hi, rfl, rfl, rfl⟩
  simp -dsimp only [cX_seq, cX_reg, cX_cond, cX_block, cX_exit, cX_ret, cX_skip, regX_cons, regX_nil, evs, ev, Env.get, evX_some, Env.putO, Env.keep, outX_normal, outX_exit, retX_ret, resultsA, resultsL, resultOf, optX_some, opX_move, opX_bin, opX_load, opX_idxSl, bin_shl_u64, bin_lss, brX_decide, Int.ofNat_eq_natCast, Int.toNat_natCast, Nat.mul_one]
  refine ⟨fun hi8 => ?_, fun hge => ?_⟩
  · have e1 : cs[o + i]'(by omega) = l[i]'(by omega) := by subst hl; simp
    have hld : H'.load none b (o + i) = some (.int .u8 ((l[i]'(by omega) : Nat) : Int)) := by
      rw [load_one hb, cell1_eq (by simp; omega), bytesA_get, e1]
    have e0 : IntKind.i64.wrap ((i : Int) + ((1 : Nat) : Int)) = ((i + 1 : Nat) : Int) := by rw [wrap_i64 (by omega) (by omega)]; omega
    simp -dsimp only [hld, e0, cX_reg, regX_cons, regX_nil, evs, ev, Env.get, evX_some, Env.putO, Env.keep, outX_normal, optX_some, opX_move, opX_bin, bin_add_i64, bin_or_u64, opX_cvU64, Int.ofNat_eq_natCast, true_and]
    refine ⟨⟨by omega, by omega⟩, 8 - (i + 1), by omega, i + 1, by omega, rfl, ?_⟩
    rw [take_snoc (by omega), wordN_snoc]
    rfl
  · have : i = 8 := by omega
    subst this
    rw [List.take_of_length_le (by omega)]
    exact h

theorem layN_get (w i : Nat) (h : i < (layN w).length) : (layN w)[i] = w / 2 ^ (56 - 8 * i) % 256 := by
  match i, h with
  | 0, _ => rfl
  | 1, _ => rfl
  | 2, _ => rfl
  | 3, _ => rfl
  | 4, _ => rfl
  | 5, _ => rfl
  | 6, _ => rfl
  | 7, _ => simp [layN]
theorem layN_length (w : Nat) : (layN w).length = 8 := rfl

theorem lay_w {s : AV} {n w : Nat} {l : List Nat} {H : Heap} {K : AV → Heap → Prop} (hs : Ex H 5 1 s n (bytesA l)) (hn : n + 8 ≤ 2 ^ 40)
    (h : ∀ s' H', Acc 5 1 s H H' s' (n + 8) (bytesA (l ++ layN w)) → K s' H') : Wp tab.get (.call 261 [s, .int .u64 w] H K) := by
  refine Wp.fn tab_mono (show tab.get 261 = some (.code ir261) from rfl) rfl ?_
  simp -dsimp only [cX_seq, cX_reg, cX_block, cX_loop, regX_cons, regX_nil, evs, ev, Env.get, evX_some, Env.putO, Env.keep, paramEnv, outX_normal, opX_move, Int.ofNat_eq_natCast, Nat.zero_add]
  rw [loopX_eq]
  refine Wp.loop tab_mono (fun m e' H' => ∃ i s', i ≤ 8 ∧ m = 8 - i ∧ Acc 5 1 s H H' s' (n + i) (bytesA (l ++ (layN w).take i)) ∧ e' = [(0, s'), (1, .int .u64 w), (6, .int .i64 i)]) ?_ 8 _ _ ⟨0, s, by omega, rfl, by simpa using Acc.refl hs, rfl⟩
  rintro m e' H' ⟨i, s', hi, rfl, ha, rfl⟩
  simp -dsimp only [cX_seq, cX_reg, cX_cond, cX_block, cX_exit, cX_ret, cX_skip, regX_cons, regX_nil, evs, ev, Env.get, evX_some, Env.putO, Env.keep, outX_normal, outX_exit, retX_ret, resultsA, resultsL, resultOf, optX_some, opX_move, opX_bin, bin_sub_i64, bin_mul_i64, bin_lss, brX_decide, Int.ofNat_eq_natCast]
  refine ⟨fun hi8 => ?_, fun hge => ?_⟩
  · have e1 : IntKind.i64.wrap (((56 : Nat) : Int) - IntKind.i64.wrap (((8 : Nat) : Int) * (i : Int))) = ((56 - 8 * i : Nat) : Int) := by
      rw [wrap_i64 (n := ((8 : Nat) : Int) * (i : Int)) (by omega) (by omega), wrap_i64 (by omega) (by omega)]; omega
    rw [e1]
    simp -dsimp only [opX_buildSlice, opX_append, fill_int, src_one, regX_cons, evs, ev, Env.get, evX_some, Env.putO, optX_some, bin_shr_nat, opX_cvU8, Int.ofNat_eq_natCast]
    obtain ⟨s2, H2, g1, g2, g3⟩ := ha.app1 (y := 1) (.int .u8 ((w / 2 ^ (56 - 8 * i).min IntKind.u64.bits % 256 : Nat) : Int)) (.cells true [.int .u8 ((w / 2 ^ (56 - 8 * i).min IntKind.u64.bits % 256 : Nat) : Int)]) (by omega)
    rw [g1]
    simp -dsimp only [cX_reg, regX_cons, regX_nil, evs, ev, Env.get, evX_some, Env.putO, Env.keep, outX_normal, optX_some, opX_move, opX_bin, bin_add_i64, Int.ofNat_eq_natCast]
    refine ⟨8 - (i + 1), by omega, i + 1, s2, by omega, rfl, ?_, ?_⟩
    · have e2 : (56 - 8 * i).min IntKind.u64.bits = 56 - 8 * i := Nat.min_eq_left (show 56 - 8 * i ≤ 64 by omega)
      have e3 : l ++ (layN w).take (i + 1) = (l ++ (layN w).take i) ++ [w / 2 ^ (56 - 8 * i) % 256] := by
        rw [take_snoc (by rw [layN_length]; omega), layN_get, List.append_assoc]
      rw [e3, bytesA_append]
      rw [e2] at g2
      exact g2
    · rw [wrap_i64 (by omega) (by omega)]; rfl
  · have : i = 8 := by omega
    subst this
    rw [List.take_of_length_le (by simp [layN_length])] at ha
    exact h s' H' ha
end Go.AE

/-
  A block's words.
-/
set_option maxHeartbeats 4000000
namespace Go.AE
theorem wordsOf_length : ∀ (n : Nat) (b : List Nat), (wordsOf n b).length = n
  | 0, _ => rfl
  | n + 1, b => by simp [wordsOf, wordsOf_length n]
theorem wordsOf_get : ∀ (n : Nat) (b : List Nat) (i : Nat) (h : i < (wordsOf n b).length), (wordsOf n b)[i] = wordN ((b.drop (8 * i)).take 8)
  | 0, _, i, h => by simp [wordsOf] at h
  | n + 1, b, 0, h => by simp [wordsOf]
  | n + 1, b, i + 1, h => by
    have := wordsOf_get n (b.drop 8) i (by simpa [wordsOf] using h)
    simp only [wordsOf, List.getElem_cons_succ, this, List.drop_drop]
    rw [show 8 * (i + 1) = 8 + 8 * i by omega]
theorem sched_succ (n : Nat) (l : List Nat) : sched (n + 1) l = sched n (nextW l :: l) := by simp only [sched, forceN_eq]
theorem sched_snoc : ∀ (n : Nat) (l : List Nat), sched (n + 1) l = nextW (sched n l) :: sched n l
  | 0, l => by simp [sched, forceN_eq]
  | n + 1, l => by rw [sched_succ, sched_snoc n, ← sched_succ]
theorem sched_length : ∀ (n : Nat) (l : List Nat), (sched n l).length = l.length + n
  | 0, l => by simp [sched]
  | n + 1, l => by rw [sched_snoc]; simp [sched_length n]; omega
theorem nextW_r : ∀ (r : List Nat) (h : 16 ≤ r.length), nextW r = badd (badd (badd (sigB r[1]) r[6]) (sigA r[14])) r[15]
  | a1 :: a2 :: a3 :: a4 :: a5 :: a6 :: a7 :: a8 :: a9 :: a10 :: a11 :: a12 :: a13 :: a14 :: a15 :: a16 :: _, _ => rfl
  | [], h | [_], h | [_, _], h | [_, _, _], h | [_, _, _, _], h | [_, _, _, _, _], h | [_, _, _, _, _, _], h | [_, _, _, _, _, _, _], h | [_, _, _, _, _, _, _, _], h | [_, _, _, _, _, _, _, _, _], h | [_, _, _, _, _, _, _, _, _, _], h
  | [_, _, _, _, _, _, _, _, _, _, _], h | [_, _, _, _, _, _, _, _, _, _, _, _], h | [_, _, _, _, _, _, _, _, _, _, _, _, _], h | [_, _, _, _, _, _, _, _, _, _, _, _, _, _], h | [_, _, _, _, _, _, _, _, _, _, _, _, _, _, _], h => by simp at h
/-- the next word, by the words in order. -/
theorem nextW_get {l : List Nat} {t : Nat} (h : l.length = t) (ht : 16 ≤ t) : nextW l.reverse = badd (badd (badd (sigB (l.getD (t - 2) 0)) (l.getD (t - 7) 0)) (sigA (l.getD (t - 15) 0))) (l.getD (t - 16) 0) := by
  have hr : ∀ i (hi : i < t) (j : Nat) (hj : j = t - 1 - i), l.getD j 0 = l.reverse[i]'(by simp; omega) := by
    intro i hi j hj; subst hj; rw [List.getElem_reverse]; subst h
    rw [List.getD_eq_getElem?_getD, List.getElem?_eq_getElem (by omega)]; rfl
  rw [hr 1 (by omega) (t - 2) (by omega), hr 6 (by omega) (t - 7) (by omega), hr 14 (by omega) (t - 15) (by omega), hr 15 (by omega) (t - 16) (by omega)]
  exact nextW_r _ (by simp; omega)

/-- the words known so far, and nothing behind them. -/
def padW (l : List Nat) : List AV := wordsA (l ++ List.replicate (80 - l.length) 0)
theorem padW_set {l : List Nat} {t w : Nat} (h : l.length = t) (ht : t < 80) : (padW l).set t (.int .u64 (w : Int)) = padW (l ++ [w]) := by
  unfold padW
  rw [wordsA_set]
  congr 1
  rw [show 80 - l.length = (80 - (l ++ [w]).length) + 1 by simp; omega, List.replicate_succ, List.set_append_right _ _ (by omega), h]
  simp
theorem padW_length {l : List Nat} (h : l.length ≤ 80) : (padW l).length = 80 := by simp [padW]; omega
theorem padW_get {l : List Nat} {i : Nat} (h : i < l.length) (h' : i < (padW l).length) : (padW l)[i] = .int .u64 ((l[i] : Nat) : Int) := by
  simp only [padW, wordsA_get]
  rw [List.getElem_append_left h]
theorem padW_all {l : List Nat} (h : l.length = 80) : padW l = wordsA l := by simp [padW, h]

def rightS : List AV → Heap → (AV → Heap → Prop) → Prop := fun args H K => match args with
  | [.int .u64 (.ofNat x), .int .i64 (.ofNat n)] => (0 < n ∧ n < 64) ∧ K (.int .u64 (rotr x n : Nat)) H
  | _ => False
theorem rightS_ok : ∀ args H K, rightS args H K → Wp tab.get (.call 316 args H K) := by
  intro args H K h
  unfold rightS at h
  split at h
  · exact right_w h.1.1 h.1.2 h.2
  · exact h.elim
theorem rightS_mono : ∀ args H (K K' : AV → Heap → Prop), (∀ v H, K v H → K' v H) → rightS args H K → rightS args H K' := by
  intro args H K K' hK h
  unfold rightS at h ⊢
  split at h
  · exact ⟨h.1, hK _ _ h.2⟩
  · exact h.elim
/-- words turned and words of bytes by contract. -/
def tab1 : Nat → Option FSpec := over (over tab.get 262 (low tab.get 262)) 316 rightS
theorem tab1_mono : TMono tab1 := (tab_mono.over low_mono).over rightS_mono
theorem call_right (x n : Nat) (H : Heap) (K : AV → Heap → Prop) : callX (Wp tab1) 316 [.int .u64 x, .int .i64 n] H K = ((0 < n ∧ n < 64) ∧ K (.int .u64 (rotr x n : Nat)) H) := by
  rw [call_spec tab1_mono (f := 316) (S := rightS) rfl]; rfl
theorem call_word (args : List AV) (H : Heap) (K : AV → Heap → Prop) : callX (Wp tab1) 262 args H K = Wp tab.get (.call 262 args H K) := by
  rw [call_spec tab1_mono (f := 262) (S := low tab.get 262) rfl]; rfl

theorem spread_w {b o n : Nat} {c : Option Nat} {w : Bool} {cs l : List Nat} {H : Heap} {K : AV → Heap → Prop} (hb : H.get b = some (.cells w (bytesA cs))) (hb' : b < H.next) (hn : n = 128) (hl : (cs.drop o).take 128 = l) (hlen : o + 128 ≤ cs.length)
    (h : ∀ H', Keep [] H H' → K (.agg (wordsA (spreadN l))) H') : Wp tab1 (.call 315 [.sl b o n c 5] H K) := by
  refine Wp.fn tab1_mono (show tab1 315 = some (.code ir315) from rfl) rfl ?_
  simp -dsimp only [cX_seq, cX_reg, cX_block, cX_loop, regX_cons, regX_nil, evs, ev, Env.get, evX_some, Env.putO, Env.keep, paramEnv, outX_normal, opX_move, opX_alloc, Int.ofNat_eq_natCast, Heap.next_push]
  subst hn
  have hll : l.length = 128 := by rw [← hl]; simp; omega
  rw [loopX_eq]
  have hk0 : Keep [] H ((H.push (.cells true (padW []))).push (.cells true (padW []))) := (Keep.push _ _ _).trans (Keep.push _ _ _)
  have hbs : ∀ H', Keep [H.next + 1] ((H.push (.cells true (padW []))).push (.cells true (padW []))) H' → H'.get b = some (.cells w (bytesA cs)) := by
    intro H' hk
    rw [hk.same b (by simp; omega) (by simp; omega), hk0.same b hb' (by simp), hb]
  refine Wp.loop tab1_mono (fun m e' H' => ∃ i, i ≤ 16 ∧ m = 16 - i ∧ Keep [H.next + 1] ((H.push (.cells true (padW []))).push (.cells true (padW []))) H' ∧ H'.get (H.next + 1) = some (.cells true (padW ((wordsOf 16 l).take i))) ∧ e' = [(0, .sl b o 128 c 5), (2, .ptr H.next 0), (3, .ptr (H.next + 1) 0), (10, .int .i64 i)]) ?_ 16 _ _ ⟨0, by omega, rfl, Keep.refl _ _, get_push_new _ _, rfl⟩
  rintro m e' H1 ⟨i, hi, rfl, hk, hg, rfl⟩
  simp -dsimp only [cX_seq, cX_reg, cX_cond, cX_block, cX_exit, cX_skip, cX_loop, regX_cons, regX_nil, evs, ev, Env.get, evX_some, Env.putO, Env.keep, outX_normal, outX_exit, optX_some, opX_move, opX_bin, bin_mul_i64, bin_lss, brX_decide, Int.ofNat_eq_natCast]
  refine ⟨fun hi16 => ?_, fun hge => ?_⟩
  · have e1 : IntKind.i64.wrap (((8 : Nat) : Int) * (i : Int)) = ((8 * i : Nat) : Int) := by rw [wrap_i64 (by omega) (by omega)]; omega
    simp -dsimp only [e1, opX_slice, slice_lo (show 8 * i ≤ 128 by omega), call_word, regX_cons, evs, ev, Env.get, evX_some, Env.putO, optX_some, opX_call, opX_idxArr, List.nil_append, List.append_nil, Int.toNat_natCast, Nat.mul_one, Nat.zero_add]
    refine word_w (l := (l.drop (8 * i)).take 8) (hbs _ hk) (by omega) ?_ (by omega) ?_
    · rw [← hl, List.drop_take, List.drop_drop, List.take_take]
      congr 1
      omega
    · have e3 : ((wordsOf 16 l).take i).length = i := by rw [List.length_take, wordsOf_length]; omega
      have ew : H1.write (H.next + 1) i [.int .u64 (wordN ((l.drop (8 * i)).take 8) : Nat)] = _ := write_one hg (by rw [padW_length (by omega)]; omega)
      have e0 : IntKind.i64.wrap ((i : Int) + ((1 : Nat) : Int)) = ((i + 1 : Nat) : Int) := by rw [wrap_i64 (by omega) (by omega)]; omega
      simp -dsimp only [ew, e0, cX_reg, regX_cons, regX_nil, evs, ev, Env.get, evX_some, Env.putO, Env.keep, outX_normal, optX_some, opX_move, opX_bin, opX_store_int, bin_add_i64, Int.ofNat_eq_natCast]
      refine ⟨⟨by omega, by omega⟩, 16 - (i + 1), by omega, i + 1, by omega, rfl, hk.trans (Keep.set _ (.inr (by simp))), ?_, rfl⟩
      rw [get_set_same, padW_set e3 (by omega), take_snoc (l := wordsOf 16 l) (by rw [wordsOf_length]; omega), wordsOf_get]
  · have : i = 16 := by omega
    subst this
    rw [List.take_of_length_le (by rw [wordsOf_length]; omega)] at hg
    have hW : (wordsOf 16 l).length = 16 := wordsOf_length _ _
    rw [loopX_eq]
    refine Wp.loop tab1_mono (fun m e' H' => ∃ t, 16 ≤ t ∧ t ≤ 80 ∧ m = 80 - t ∧ Keep [H.next + 1] ((H.push (.cells true (padW []))).push (.cells true (padW []))) H' ∧ H'.get (H.next + 1) = some (.cells true (padW (sched (t - 16) (wordsOf 16 l).reverse).reverse)) ∧ e' = [(2, .ptr H.next 0), (3, .ptr (H.next + 1) 0), (5, .int .i64 t)]) ?_ 64 _ _ ⟨16, by omega, by omega, rfl, hk, by simpa [sched] using hg, rfl⟩
    rintro m e' H2 ⟨t, ht, ht2, rfl, hk2, hg2, rfl⟩
    simp -dsimp only [cX_seq, cX_reg, cX_dreg, cX_cond, cX_block, cX_exit, cX_skip, regX_cons, regX_nil, dregX_pure kd_move, dregX_pure (kd_bin _), dregX_pure (kd_idxArr _ _), dregX_read (kd_load _), evs, ev, Env.get, evX_some, Env.putO, Env.keep, outX_normal, outX_exit, optX_some, opX_move, opX_bin, opX_load, opX_idxArr, bin_sub_i64, bin_lss, brX_decide, Int.ofNat_eq_natCast, Nat.mul_one, Nat.add_zero, Nat.zero_add, heap_eta]
    have hL : (sched (t - 16) (wordsOf 16 l).reverse).reverse.length = t := by rw [List.length_reverse, sched_length, List.length_reverse, hW]; omega
    have hnext : sched (t + 1 - 16) (wordsOf 16 l).reverse = nextW (sched (t - 16) (wordsOf 16 l).reverse) :: sched (t - 16) (wordsOf 16 l).reverse := by
      rw [show t + 1 - 16 = (t - 16) + 1 by omega, sched_snoc]
    have hL2 := hg2
    generalize hLL : (sched (t - 16) (wordsOf 16 l).reverse).reverse = L at hL hL2
    have hload : ∀ j, j < t → H2.load none (H.next + 1) j = some (.int .u64 ((L.getD j 0 : Nat) : Int)) := by
      intro j hj
      rw [load_one hL2, cell1_eq (by rw [padW_length (by omega)]; omega), padW_get (by omega)]
      simp [List.getD, hL, hj]
    refine ⟨fun ht80 => ?_, fun hge2 => ?_⟩
    · have e15 : IntKind.i64.wrap ((t : Int) - ((15 : Nat) : Int)) = ((t - 15 : Nat) : Int) := by rw [wrap_i64 (by omega) (by omega)]; omega
      have e2 : IntKind.i64.wrap ((t : Int) - ((2 : Nat) : Int)) = ((t - 2 : Nat) : Int) := by rw [wrap_i64 (by omega) (by omega)]; omega
      have e7 : IntKind.i64.wrap ((t : Int) - ((7 : Nat) : Int)) = ((t - 7 : Nat) : Int) := by rw [wrap_i64 (by omega) (by omega)]; omega
      have e16 : IntKind.i64.wrap ((t : Int) - ((16 : Nat) : Int)) = ((t - 16 : Nat) : Int) := by rw [wrap_i64 (by omega) (by omega)]; omega
      have e0 : IntKind.i64.wrap ((t : Int) + ((1 : Nat) : Int)) = ((t + 1 : Nat) : Int) := by rw [wrap_i64 (by omega) (by omega)]; omega
      have ew : ∀ x : Nat, H2.write (H.next + 1) t [.int .u64 x] = _ := fun x => write_one hL2 (by rw [padW_length (by omega)]; omega)
      simp -dsimp only [e15, e2, e7, e16, e0, hload (t - 15) (by omega), hload (t - 2) (by omega), hload (t - 7) (by omega), hload (t - 16) (by omega), call_right, ew, cX_seq, cX_reg, cX_dreg, regX_cons, regX_nil, dregX_nil, dregX_pure kd_move, dregX_pure (kd_bin _), dregX_pure (kd_idxArr _ _), dregX_read (kd_load _), dregX_eff, flush, watched_nil, watched_1_0, evs, ev, Env.get, evX_some, Env.putO, Env.keep, outX_normal, optX_some, opX_move, opX_bin, opX_call, opX_load, opX_store_int, opX_idxArr, bin_add_u64, bin_add_i64, bin_sub_i64, bin_xor_u64, bin_shr_nat, List.nil_append, List.append_nil, Int.ofNat_eq_natCast, Int.toNat_natCast, Nat.mul_one, Nat.add_zero, Nat.zero_add, heap_eta, true_and]
      refine ⟨by omega, by omega, by omega, by omega, by omega, by omega, by omega, by omega, by omega, 80 - (t + 1), by omega, t + 1, by omega, by omega, rfl, hk2.trans (Keep.set _ (.inr (by simp))), ?_, rfl⟩
      rw [get_set_same, padW_set hL (by omega), hnext, List.reverse_cons, hLL, ← List.reverse_reverse (sched (t - 16) (wordsOf 16 l).reverse), hLL, nextW_get hL ht]
      rfl
    · have ht : t = 80 := by omega
      subst ht
      rw [padW_all hL] at hL2
      have el := load_whole (n := 80) hL2 (by simpa using hL)
      have hg0 : H2.get H.next = some (.cells true (padW [])) := by
        rw [hk2.same _ (by simp; omega) (by simp), get_push_old (by simp), get_push_new]
      have ew : H2.write H.next 0 (wordsA L) = _ := write_whole hg0 (by rw [padW_length (by simp)]; simpa using hL)
      have el2 := load_whole (n := 80) (get_set_same H2 H.next (.cells true (wordsA L))) (by simpa using hL)
      simp -dsimp only [el, ew, el2, cX_ret, regX_cons, regX_nil, evs, ev, Env.get, evX_some, Env.putO, Env.keep, outX_normal, retX_ret, resultsA, resultsL, resultOf, optX_some, opX_store_agg]
      refine ⟨⟨by simpa using hL, wordsA_one _⟩, ?_⟩
      have : spreadN l = L := hLL
      rw [← this]
      exact h _ ((hk0.trans' hk2 (by simp)).trans' (Keep.set (S := [H.next]) _ (.inr (by simp))) (by simp))
end Go.AE
