/-
  Words of 32 bits, for walks.
-/
import Derived.Test.YtoinombhonbibaaGreatDoorAeSha
set_option linter.unusedSimpArgs false
set_option linter.unusedVariables false
set_option linter.unusedSectionVars false
namespace Go.AE
theorem wrap_u32_nat (n : Nat) : IntKind.u32.wrap (n : Int) = ((n % 4294967296 : Nat) : Int) := by
  simp [IntKind.wrap, IntKind.bits, IntKind.signed]
theorem toNat_mod_u32 (a : Nat) : (((a : Int) % 2 ^ IntKind.u32.bits)).toNat = a % 4294967296 := by
  simp only [IntKind.bits]; omega
theorem add_u32 (a b : Nat) : IntKind.u32.wrap ((a : Int) + (b : Int)) = (((a + b) % 4294967296 : Nat) : Int) := by
  rw [← wrap_u32_nat]; simp
theorem add3_lt (a b : Nat) : add3 a b < 4294967296 := Nat.mod_lt _ (by decide)
theorem or3_lt (a b : Nat) : or3 a b < 4294967296 := Nat.mod_lt _ (by decide)
theorem xor3_lt (a b : Nat) : xor3 a b < 4294967296 := Nat.mod_lt _ (by decide)
theorem bin_and_u32 (a b : Nat) : binA .and (.int .u32 a) (.int .u32 b) = some (.int .u32 (and3 a b : Nat)) := by
  simp only [binA, binInt, mkInt_eq, if_true, bits, toNat_mod_u32, wrap_u32_nat]; rfl
theorem bin_or_u32 (a b : Nat) : binA .or (.int .u32 a) (.int .u32 b) = some (.int .u32 (or3 a b : Nat)) := by
  simp only [binA, binInt, mkInt_eq, if_true, bits, toNat_mod_u32, wrap_u32_nat]; rfl
theorem bin_xor_u32 (a b : Nat) : binA .xor (.int .u32 a) (.int .u32 b) = some (.int .u32 (xor3 a b : Nat)) := by
  simp only [binA, binInt, mkInt_eq, if_true, bits, toNat_mod_u32, wrap_u32_nat]; rfl
theorem un_xor_u32 (a : Nat) : unA .xor (.int .u32 a) = some (.int .u32 (not3 a : Nat)) := by
  have : IntKind.u32.max = ((4294967295 : Nat) : Int) := rfl
  simp only [unA, mkInt_eq, bits, IntKind.signed, Bool.false_eq_true, if_false, this, toNat_mod_u32, wrap_u32_nat]; rfl
theorem bin_add_u32 (a b : Nat) : binA .add (.int .u32 a) (.int .u32 b) = some (.int .u32 (add3 a b : Nat)) := by
  simp only [binA, binInt, mkInt_eq, if_true, add_u32]; rfl
theorem bin_shl_u32 (j : IntKind) (a b : Nat) : binA .shl (.int .u32 a) (.int j b) = some (.int .u32 ((a * 2 ^ (Nat.min b 32) % 4294967296 : Nat) : Int)) := by
  have h : ¬ ((b : Int) < 0) := by omega
  simp only [binA, h, if_false, mkInt_eq, Int.toNat_natCast, ← wrap_u32_nat]
  simp; rfl
theorem opX_cvU32 {R : Job → Prop} {H : Heap} {K : AV → Heap → Prop} (j : IntKind) (n : Nat) : opX R (.cvInt .u32) [.int j n] H K = K (.int .u32 ((n % 4294967296 : Nat) : Int)) H := by rw [opX_cvInt, wrap_u32_nat]
/-! ### Memory's cells of such words -/
def halvesA (l : List Nat) : List AV := l.map fun (w : Nat) => .int .u32 (w : Int)
@[simp] theorem halvesA_length (l : List Nat) : (halvesA l).length = l.length := by simp [halvesA]
theorem halvesA_append (l m : List Nat) : halvesA (l ++ m) = halvesA l ++ halvesA m := by simp [halvesA]
theorem halvesA_drop (l : List Nat) (n : Nat) : (halvesA l).drop n = halvesA (l.drop n) := by simp [halvesA]
theorem halvesA_take (l : List Nat) (n : Nat) : (halvesA l).take n = halvesA (l.take n) := by simp [halvesA]
theorem halvesA_set (l : List Nat) (n w : Nat) : (halvesA l).set n (.int .u32 (w : Int)) = halvesA (l.set n w) := by simp [halvesA]
theorem halvesA_one (l : List Nat) : (halvesA l).all AV.one = true := by simp [halvesA, AV.one]
theorem halvesA_under (n : Nat) (l : List Nat) : AV.unders n (halvesA l) = true := unders_one fun a ha => by
  simp only [halvesA, List.mem_map] at ha; obtain ⟨_, _, rfl⟩ := ha; rfl
theorem halvesA_get (l : List Nat) (n : Nat) (h : n < (halvesA l).length) : (halvesA l)[n] = .int .u32 ((l[n]'(by simpa using h) : Nat) : Int) := by simp [halvesA]
theorem halves_at {l : List Nat} {t : Nat} (h : t < l.length) : cell1 (halvesA l) t = some (.int .u32 ((l.getD t 0 : Nat) : Int)) := by
  rw [cell1_eq (by simpa using h), halvesA_get]; simp [h]
end Go.AE

/-
  SHA-256's numbers, one by one.
-/
namespace Go.AE
theorem sched3_succ (n : Nat) (l : List Nat) : sched3 (n + 1) l = sched3 n (next3 l :: l) := by simp only [sched3, forceN_eq]
theorem sched3_snoc : ∀ (n : Nat) (l : List Nat), sched3 (n + 1) l = next3 (sched3 n l) :: sched3 n l
  | 0, l => by simp [sched3, forceN_eq]
  | n + 1, l => by rw [sched3_succ, sched3_snoc n, ← sched3_succ]
theorem sched3_length : ∀ (n : Nat) (l : List Nat), (sched3 n l).length = l.length + n
  | 0, l => by simp [sched3]
  | n + 1, l => by rw [sched3_snoc]; simp [sched3_length n]; omega
theorem words3_length : ∀ (n : Nat) (b : List Nat), (words3 n b).length = n
  | 0, _ => rfl
  | n + 1, b => by simp [words3, words3_length n]
theorem words3_get : ∀ (n : Nat) (b : List Nat) (i : Nat) (h : i < (words3 n b).length), (words3 n b)[i] = word3 ((b.drop (4 * i)).take 4)
  | 0, _, i, h => by simp [words3] at h
  | n + 1, b, 0, h => by simp [words3]
  | n + 1, b, i + 1, h => by
    have := words3_get n (b.drop 4) i (by simpa [words3] using h)
    simp only [words3, List.getElem_cons_succ, this, List.drop_drop]
    rw [show 4 * (i + 1) = 4 + 4 * i by omega]
theorem next3_r : ∀ (r : List Nat) (h : 16 ≤ r.length), next3 r = add3 (add3 (add3 r[15] (sig3A r[14])) r[6]) (sig3B r[1])
  | a1 :: a2 :: a3 :: a4 :: a5 :: a6 :: a7 :: a8 :: a9 :: a10 :: a11 :: a12 :: a13 :: a14 :: a15 :: a16 :: _, _ => rfl
  | [], h | [_], h | [_, _], h | [_, _, _], h | [_, _, _, _], h | [_, _, _, _, _], h | [_, _, _, _, _, _], h | [_, _, _, _, _, _, _], h | [_, _, _, _, _, _, _, _], h | [_, _, _, _, _, _, _, _, _], h | [_, _, _, _, _, _, _, _, _, _], h
  | [_, _, _, _, _, _, _, _, _, _, _], h | [_, _, _, _, _, _, _, _, _, _, _, _], h | [_, _, _, _, _, _, _, _, _, _, _, _, _], h | [_, _, _, _, _, _, _, _, _, _, _, _, _, _], h | [_, _, _, _, _, _, _, _, _, _, _, _, _, _, _], h => by simp at h
/-- the next number, by the numbers in order. -/
theorem next3_get {l : List Nat} {t : Nat} (h : l.length = t) (ht : 16 ≤ t) : next3 l.reverse = add3 (add3 (add3 (l.getD (t - 16) 0) (sig3A (l.getD (t - 15) 0))) (l.getD (t - 7) 0)) (sig3B (l.getD (t - 2) 0)) := by
  have hr : ∀ i (hi : i < t) (j : Nat) (hj : j = t - 1 - i), l.getD j 0 = l.reverse[i]'(by simp; omega) := by
    intro i hi j hj; subst hj; rw [List.getElem_reverse]; subst h
    rw [List.getD_eq_getElem?_getD, List.getElem?_eq_getElem (by omega)]; rfl
  rw [hr 1 (by omega) (t - 2) (by omega), hr 6 (by omega) (t - 7) (by omega), hr 14 (by omega) (t - 15) (by omega), hr 15 (by omega) (t - 16) (by omega)]
  exact next3_r _ (by simp; omega)
theorem getD_app {l m : List Nat} {i : Nat} (h : i < l.length) : (l ++ m).getD i 0 = l.getD i 0 := by
  rw [List.getD_eq_getElem?_getD, List.getElem?_append_left h, List.getD_eq_getElem?_getD]
theorem sched3_high : ∀ (n : Nat) (l : List Nat), 16 ≤ l.length → ∀ i, l.length ≤ i → i < l.length + n → (sched3 n l).reverse.getD i 0 = add3 (add3 (add3 ((sched3 n l).reverse.getD (i - 16) 0) (sig3A ((sched3 n l).reverse.getD (i - 15) 0))) ((sched3 n l).reverse.getD (i - 7) 0)) (sig3B ((sched3 n l).reverse.getD (i - 2) 0))
  | 0, l, _, i, h1, h2 => by omega
  | n + 1, l, hl, i, h1, h2 => by
    have hlen : (sched3 n l).reverse.length = l.length + n := by rw [List.length_reverse, sched3_length]
    rw [sched3_snoc, List.reverse_cons]
    by_cases hi : i < l.length + n
    · rw [getD_app (by omega), getD_app (by omega), getD_app (by omega), getD_app (by omega), getD_app (by omega)]
      exact sched3_high n l hl i h1 hi
    · have hi : i = l.length + n := by omega
      subst hi
      rw [getD_app (i := l.length + n - 16) (by omega), getD_app (i := l.length + n - 15) (by omega), getD_app (i := l.length + n - 7) (by omega), getD_app (i := l.length + n - 2) (by omega)]
      rw [← next3_get hlen (by omega), List.reverse_reverse, List.getD_eq_getElem?_getD, List.getElem?_append_right (by omega), hlen]
      simp
theorem sched3_low : ∀ (n : Nat) (l : List Nat) (i : Nat), i < l.length → (sched3 n l).reverse.getD i 0 = l.reverse.getD i 0
  | 0, l, i, _ => rfl
  | n + 1, l, i, h => by
    rw [sched3_snoc, List.reverse_cons, getD_app (by rw [List.length_reverse, sched3_length]; omega)]
    exact sched3_low n l i h
theorem spread3_length (b : List Nat) : (spread3 b).length = 64 := by simp [spread3, sched3_length, words3_length]
theorem spread3_low (b : List Nat) {i : Nat} (h : i < 16) : (spread3 b).getD i 0 = word3 ((b.drop (4 * i)).take 4) := by
  unfold spread3
  rw [sched3_low _ _ _ (by rw [List.length_reverse, words3_length]; exact h), List.reverse_reverse, List.getD_eq_getElem?_getD, List.getElem?_eq_getElem (by rw [words3_length]; exact h), words3_get]
  rfl
theorem spread3_high (b : List Nat) {i : Nat} (h1 : 16 ≤ i) (h2 : i < 64) : (spread3 b).getD i 0 = add3 (add3 (add3 ((spread3 b).getD (i - 16) 0) (sig3A ((spread3 b).getD (i - 15) 0))) ((spread3 b).getD (i - 7) 0)) (sig3B ((spread3 b).getD (i - 2) 0)) := by
  have hl : (words3 16 b).reverse.length = 16 := by rw [List.length_reverse, words3_length]
  exact sched3_high 48 (words3 16 b).reverse (by omega) i (by omega) (by omega)
theorem halves_zero (x : Nat) (l : List Nat) : cell1 (halvesA (x :: l)) 0 = some (.int .u32 (x : Int)) := cell1_zero _ _
theorem halves_succ (x : Nat) (l : List Nat) (n : Nat) : cell1 (halvesA (x :: l)) (n + 1) = cell1 (halvesA l) n := cell1_succ _ _ _
theorem bits_or_u32 (a b : Nat) : bits .u32 (fun x y => x ||| y) (a : Int) (b : Int) = ((or3 a b : Nat) : Int) := by
  simp only [bits, toNat_mod_u32, wrap_u32_nat]; rfl
theorem mk_push (H : Heap) (o : AObj) : (⟨H.next + 1, H.mem⟩ : Heap).set H.next o = H.push o := by
  simp only [Heap.push, Heap.set, forceN_eq]
/-- whole numbers' cells. -/
def intsA (l : List Nat) : List AV := l.map fun (n : Nat) => .int .i64 (n : Int)
@[simp] theorem intsA_length (l : List Nat) : (intsA l).length = l.length := by simp [intsA]
theorem ints_at {l : List Nat} {t : Nat} (h : t < l.length) : cell1 (intsA l) t = some (.int .i64 ((l[t] : Nat) : Int)) := by
  rw [cell1_eq (by simpa using h)]; simp [intsA]
/-- the numbers known so far, and nothing behind them. -/
def padH (l : List Nat) : List AV := halvesA (l ++ List.replicate (64 - l.length) 0)
theorem padH_length {l : List Nat} (h : l.length ≤ 64) : (padH l).length = 64 := by simp [padH]; omega
theorem padH_set {l : List Nat} {t w : Nat} (h : l.length = t) (ht : t < 64) : (padH l).set t (.int .u32 (w : Int)) = padH (l ++ [w]) := by
  unfold padH
  rw [halvesA_set]
  congr 1
  rw [show 64 - l.length = (64 - (l ++ [w]).length) + 1 by simp; omega, List.replicate_succ, List.set_append_right _ _ (by omega), h]
  simp
theorem padH_at {l : List Nat} {i : Nat} (h : i < l.length) : cell1 (padH l) i = some (.int .u32 ((l.getD i 0 : Nat) : Int)) := by
  rw [padH, halves_at (by simp; omega), getD_app h]
theorem take_getD {l : List Nat} {i t : Nat} (h : i < t) (ht : t ≤ l.length) : (l.take t).getD i 0 = l.getD i 0 := by
  rw [List.getD_eq_getElem?_getD, List.getElem?_take_of_lt h, List.getD_eq_getElem?_getD]
theorem take_snoc3 {l : List Nat} {i : Nat} (h : i < l.length) : l.take (i + 1) = l.take i ++ [l.getD i 0] := by
  rw [← List.take_append_getElem h, List.getD_eq_getElem?_getD, List.getElem?_eq_getElem h]; rfl
theorem drop_getD3 {l : List Nat} {t : Nat} (h : t < l.length) : l.drop t = l.getD t 0 :: l.drop (t + 1) := by
  rw [List.drop_eq_getElem_cons h, List.getD_eq_getElem?_getD, List.getElem?_eq_getElem h]; rfl
theorem rounds3_step (k w : Nat) (ks ws s : List Nat) : rounds3 (k :: ks) (w :: ws) s = rounds3 ks ws (round3 (add3 k w) s) := by simp only [rounds3, forceL_eq]
theorem round3_8 (x a b c d e f g h : Nat) : round3 x [a, b, c, d, e, f, g, h] = [add3 (add3 (add3 (add3 h (big3E e)) (ch3 e f g)) x) (add3 (big3A a) (maj3 a b c)), a, b, c, add3 d (add3 (add3 (add3 h (big3E e)) (ch3 e f g)) x), e, f, g] := by
  simp only [round3, forceN_eq]
theorem round3_length (x : Nat) {s : List Nat} (h : s.length = 8) : (round3 x s).length = 8 := by
  match s, h with
  | [a, b, c, d, e, f, g, i], _ => rw [round3_8]; rfl
theorem sha3K_length : sha3K.length = 64 := rfl
theorem turn_add3 (d t : Nat) : add3 d t = add3 d t := rfl
end Go.AE
