/-
  Slices joined.
-/
import Derived.Test.YtefkjiedgecjpaaGreatDoorAeV6
set_option linter.unusedSimpArgs false
set_option linter.unusedVariables false
set_option linter.unusedSectionVars false
set_option maxHeartbeats 4000000
namespace Go.AE
theorem app_room {H : Heap} {e sz y b n k : Nat} {l x r : List AV} (hb : H.get b = some (.cells true (l ++ r))) (hl : l.length = n * sz) (hx : x.length = k * sz) (hr : k * sz ≤ r.length) (hk : 0 < k) (hroom : (n + k) * y ≤ 2 ^ 40) :
    appendA e sz y (.sl b 0 n none e) k x H = some (.sl b 0 (n + k) none e, H.set b (.cells true ((l ++ x) ++ r.drop (k * sz)))) := by
  have hk0 : k ≠ 0 := by omega
  have h4 : 0 + (n + k) * sz ≤ (l ++ r).length := by rw [Nat.add_mul, List.length_append]; omega
  have h5 : H.write b (0 + n * sz) x = some (H.set b (.cells true ((l ++ x) ++ r.drop (k * sz)))) := by
    rw [write_at hb (by rw [List.length_append]; omega), Nat.zero_add]
    congr 4
    · rw [← hl, List.take_left]
    · rw [← hl, List.drop_append, List.drop_of_length_le (by omega), List.nil_append, hx]
      congr 1
      omega
  simp only [appendA, hk0, if_false, true_and, hroom, if_true, hb, h4, h5]

/-- slices.Grow. -/
def growF (e sz y : Nat) (z : List AV) : IFunc := ⟨27, [.t 4], (.seq (.reg [⟨(some 4), .move, [.c .nils], none⟩] [0, 1])
  (.seq (.seq (.reg [⟨(some 5), .move, [.t 1], none⟩, ⟨(some 6), (.bin .lss), [.t 5, .c (.int .i64 (0))], none⟩] [0, 1, 6])
  (.cond (.t 6) (.reg [⟨(some 7), .bad, [], none⟩, ⟨none, .bad, [], none⟩] [0, 1]) .skip))
  (.seq (.seq (.reg [⟨(some 8), .move, [.t 1], none⟩, ⟨(some 9), .move, [.t 0], none⟩, ⟨(some 10), .cap, [.t 9], none⟩, ⟨(some 11), .move, [.t 0], none⟩, ⟨(some 12), (.len .sl), [.t 11], none⟩, ⟨(some 13), (.bin .sub), [.t 10, .t 12], none⟩, ⟨(some 14), (.bin .sub), [.t 8, .t 13], none⟩, ⟨(some 1), .move, [.t 14], none⟩] [0, 1])
  (.seq (.reg [⟨(some 15), .move, [.t 1], none⟩, ⟨(some 16), (.bin .gtr), [.t 15, .c (.int .i64 (0))], none⟩] [0, 1, 16])
  (.cond (.t 16) (.reg [⟨(some 17), .move, [.t 0], none⟩, ⟨(some 18), .move, [.t 0], none⟩, ⟨(some 19), .cap, [.t 18], none⟩, ⟨(some 20), (.slice (.sl sz e) false true false), [.t 17, .t 19], none⟩, ⟨(some 21), .move, [.t 1], none⟩, ⟨(some 22), (.append e sz y z true), [.t 20, .t 21], none⟩, ⟨(some 23), .move, [.t 0], none⟩, ⟨(some 24), (.len .sl), [.t 23], none⟩, ⟨(some 25), (.slice (.sl sz e) false true false), [.t 22, .t 24], none⟩, ⟨(some 0), .move, [.t 25], none⟩] [0]) .skip)))
  (.seq (.reg [⟨(some 26), .move, [.t 0], none⟩, ⟨(some 4), .move, [.t 26], none⟩] [4])
  .ret))))⟩
theorem grow_213 : ir213 = growF 5 1 1 [.int .u8 0] := rfl

theorem grow_w {T : Nat → Option FSpec} (hT : TMono T) {f e sz y n : Nat} {z : List AV} (hf : T f = some (.code (growF e sz y z))) (hz : z.length = sz) (hsz : 0 < sz) (hn : n * y ≤ 2 ^ 40) (hn2 : n ≤ 2 ^ 40) {H : Heap} {K : AV → Heap → Prop}
    (h0 : n = 0 → K .nils H) (h1 : 0 < n → K (.sl H.next 0 0 none e) (H.push (.cells true (zeros z n)))) : Wp T (.call f [.nils, .int .i64 (n : Int)] H K) := by
  refine Wp.fn hT hf rfl ?_
  have e1 : IntKind.i64.wrap ((0 : Int) - 0) = 0 := rfl
  have e2 : IntKind.i64.wrap ((n : Int) - 0) = (n : Int) := by rw [wrap_i64 (by omega) (by omega)]; omega
  have e3 : sliceA (.sl sz e) false true false .nils [.int .i64 0] = some .nils := rfl
  simp -dsimp only [e1, e2, e3, opX_cap_nils, opX_slice, cX_seq, cX_reg, cX_cond, cX_ret, cX_skip, regX_cons, regX_nil, evs, ev, Env.get, evX_some, Env.putO, Env.keep, paramEnv, outX_normal, retX_ret, resultsA, resultsL, resultOf, optX_some, opX_move, opX_bin, opX_len_nils, bin_sub_i64, bin_lss, bin_gtr, brX_decide, Nat.zero_add]
  refine ⟨fun h => by omega, fun _ => ⟨fun hp => ?_, fun hnp => ?_⟩⟩
  · have hn0 : 0 < n := by omega
    have hn00 : n ≠ 0 := by omega
    have ea : ∀ K' : AV → Heap → Prop, opX (Wp T) (.append e sz y z true) [.nils, .int .i64 (n : Int)] H K' = K' (.sl H.next 0 n none e) (H.push (.cells true (zeros z n))) := fun K' => by
      rw [opX_eff rfl]
      have hc : (0 : Int) ≤ n ∧ (n : Int) ≤ 2 ^ 40 := ⟨by omega, by omega⟩
      simp only [effOp, hc, and_self, if_true, Int.toNat_natCast, appendA, hn00, if_false, hn, grown, forceL_eq]
      exact optX_some _ _
    have es : sliceA (.sl sz e) false true false (.sl H.next 0 n none e) [.int .i64 0] = some (.sl H.next 0 0 none e) := slice_hi (i := 0) (by simp)
    simp -dsimp only [ea, es, opX_slice, cX_seq, cX_reg, cX_ret, regX_cons, regX_nil, evs, ev, Env.get, evX_some, Env.putO, Env.keep, outX_normal, retX_ret, resultsA, resultsL, resultOf, optX_some, opX_move, opX_len_nils]
    exact h1 hn0
  · have hn0 : n = 0 := by omega
    exact h0 hn0

/-- slices.Concat. -/
def concatF (g e sz y : Nat) (z : List AV) : IFunc := ⟨36, [.t 2], (.seq (.reg [⟨(some 2), .move, [.c .nils], none⟩] [0])
  (.seq (.reg [⟨(some 3), .move, [.c (.int .i64 (0))], none⟩] [0, 3])
  (.seq (.seq (.reg [⟨(some 9), .move, [.t 0], none⟩, ⟨(some 10), (.len .sl), [.t 9], none⟩, ⟨(some 11), .move, [.c (.int .i64 (0))], none⟩] [0, 3, 9, 10, 11])
  (.block 0 (.loop (.seq (.reg [⟨(some 12), (.bin .lss), [.t 11, .t 10], none⟩] [0, 3, 9, 10, 11, 12])
  (.seq (.cond (.t 12) .skip (.exit 0))
  (.seq (.block 1 (.seq (.reg [⟨(some 13), (.idxSl 1), [.t 9, .t 11], none⟩, ⟨(some 14), (.load none), [.t 13], none⟩, ⟨(some 5), .move, [.t 14], none⟩] [0, 3, 5, 9, 10, 11])
  (.seq (.reg [⟨(some 15), .move, [.t 3], none⟩, ⟨(some 16), .move, [.t 5], none⟩, ⟨(some 17), (.len .sl), [.t 16], none⟩, ⟨(some 18), (.bin .add), [.t 15, .t 17], none⟩, ⟨(some 3), .move, [.t 18], none⟩] [0, 3, 9, 10, 11])
  (.seq (.reg [⟨(some 19), .move, [.t 3], none⟩, ⟨(some 20), (.bin .lss), [.t 19, .c (.int .i64 (0))], none⟩] [0, 3, 9, 10, 11, 20])
  (.cond (.t 20) (.reg [⟨(some 21), .bad, [], none⟩, ⟨none, .bad, [], none⟩] [0, 3, 9, 10, 11]) .skip)))))
  (.reg [⟨(some 22), (.bin .add), [.t 11, .c (.int .i64 (1))], none⟩, ⟨(some 11), .move, [.t 22], none⟩] [0, 3, 9, 10, 11])))))))
  (.seq (.reg [⟨(some 23), .move, [.t 3], none⟩, ⟨(some 24), .call, [.c (.fn g [] []), .c .nils, .t 23], none⟩, ⟨(some 6), .move, [.t 24], none⟩] [0, 6])
  (.seq (.seq (.reg [⟨(some 25), .move, [.t 0], none⟩, ⟨(some 26), (.len .sl), [.t 25], none⟩, ⟨(some 27), .move, [.c (.int .i64 (0))], none⟩] [6, 25, 26, 27])
  (.block 2 (.loop (.seq (.reg [⟨(some 28), (.bin .lss), [.t 27, .t 26], none⟩] [6, 25, 26, 27, 28])
  (.seq (.cond (.t 28) .skip (.exit 2))
  (.seq (.block 3 (.seq (.reg [⟨(some 29), (.idxSl 1), [.t 25, .t 27], none⟩, ⟨(some 30), (.load none), [.t 29], none⟩, ⟨(some 8), .move, [.t 30], none⟩] [6, 8, 25, 26, 27])
  (.reg [⟨(some 31), .move, [.t 6], none⟩, ⟨(some 32), .move, [.t 8], none⟩, ⟨(some 33), (.append e sz y z false), [.t 31, .t 32], none⟩, ⟨(some 6), .move, [.t 33], none⟩] [6, 25, 26, 27])))
  (.reg [⟨(some 34), (.bin .add), [.t 27, .c (.int .i64 (1))], none⟩, ⟨(some 27), .move, [.t 34], none⟩] [6, 25, 26, 27])))))))
  (.seq (.reg [⟨(some 35), .move, [.t 6], none⟩, ⟨(some 2), .move, [.t 35], none⟩] [2])
  .ret))))))⟩
theorem concat_158 : ir158 = concatF 213 5 1 1 [.int .u8 0] := rfl

/-- parts: slices, their lengths, their cells. -/
abbrev Parts := List (AV × Nat × List AV)
def Parts.many : Parts → Nat
  | [] => 0
  | p :: r => p.2.1 + Parts.many r
def Parts.all : Parts → List AV
  | [] => []
  | p :: r => p.2.2 ++ Parts.all r
theorem Parts.many_append (p q : Parts) : Parts.many (p ++ q) = p.many + Parts.many q := by
  induction p with
  | nil => simp [Parts.many]
  | cons x r ih => simp [Parts.many, ih]; omega
theorem Parts.all_append (p q : Parts) : Parts.all (p ++ q) = p.all ++ Parts.all q := by
  induction p with
  | nil => simp [Parts.all]
  | cons x r ih => simp [Parts.all, ih]

theorem concat_w {T : Nat → Option FSpec} (hT : TMono T) {f g e sz y : Nat} {z : List AV} (hf : T f = some (.code (concatF g e sz y z))) (hg : T g = some (.code (growF e sz y z))) (hz : z.length = sz) (hsz : 0 < sz) {b o m : Nat} {c : Option Nat} {e2 : Nat} {w : Bool} {cs : List AV} {ps : Parts} {H : Heap} {K : AV → Heap → Prop}
    (hb : H.get b = some (.cells w cs)) (hb' : b < H.next) (hps : ∀ i (hi : i < ps.length), cell1 cs (o + i) = some (ps[i]).1) (hm : ps.length = m) (hsl : ∀ p ∈ ps, Sl H e sz p.1 p.2.1 p.2.2 ∧ ∀ b ∈ sblk p.1, b < H.next)
    (hN : ps.many * y ≤ 2 ^ 40) (hN2 : ps.many ≤ 2 ^ 40) (hm2 : m ≤ 2 ^ 40)
    (h : ∀ s' H', Acc e sz .nils H H' s' ps.many ps.all → K s' H') : Wp T (.call f [.sl b o m c e2] H K) := by
  refine Wp.fn hT hf rfl ?_
  simp -dsimp only [cX_seq, cX_reg, cX_block, cX_loop, regX_cons, regX_nil, evs, ev, Env.get, evX_some, Env.putO, Env.keep, paramEnv, outX_normal, opX_move, opX_len_sl]
  rw [loopX_eq]
  refine Wp.loop hT (fun k e' H' => ∃ i, i ≤ m ∧ k = m - i ∧ H' = H ∧ e' = [(0, .sl b o m c e2), (3, .int .i64 ((Parts.many (ps.take i) : Nat) : Int)), (9, .sl b o m c e2), (10, .int .i64 m), (11, .int .i64 i)]) ?_ m _ _ ⟨0, by omega, rfl, rfl, rfl⟩
  rintro k e' H' ⟨i, hi, rfl, rfl, rfl⟩
  simp -dsimp only [cX_seq, cX_reg, cX_cond, cX_block, cX_exit, cX_skip, regX_cons, regX_nil, evs, ev, Env.get, evX_some, Env.putO, Env.keep, outX_normal, outX_exit, optX_some, opX_move, opX_bin, opX_call, opX_load, opX_idxSl, bin_lss, brX_decide, List.nil_append, List.append_nil, Int.toNat_natCast, Nat.mul_one]
  refine ⟨fun him => ?_, fun hge => ?_⟩
  · have hip : i < ps.length := by omega
    have el : H'.load none b (o + i) = some (ps[i]).1 := by rw [load_one hb]; exact hps i hip
    have hs := (hsl ps[i] (List.getElem_mem _)).1
    have hp : ps.take (i + 1) = ps.take i ++ [ps[i]] := take_snoc hip
    have hle : Parts.many (ps.take (i + 1)) ≤ ps.many := by
      have := Parts.many_append (ps.take (i + 1)) (ps.drop (i + 1))
      rw [List.take_append_drop] at this; omega
    have hpm : Parts.many (ps.take (i + 1)) = Parts.many (ps.take i) + (ps[i]).2.1 := by rw [hp, Parts.many_append]; simp [Parts.many]
    have ea : IntKind.i64.wrap ((Parts.many (ps.take i) : Int) + ((ps[i]).2.1 : Int)) = ((Parts.many (ps.take (i + 1)) : Nat) : Int) := by rw [wrap_i64 (by omega) (by omega)]; omega
    have ei : IntKind.i64.wrap ((i : Int) + 1) = ((i + 1 : Nat) : Int) := by rw [wrap_i64 (by omega) (by omega)]; omega
    simp -dsimp only [el, hs.len, ea, ei, cX_seq, cX_reg, cX_cond, cX_skip, regX_cons, regX_nil, evs, ev, Env.get, evX_some, Env.putO, Env.keep, outX_normal, optX_some, opX_move, opX_bin, bin_add_i64, bin_lss, brX_decide, true_and]
    refine ⟨by omega, fun h => by omega, fun _ => ⟨m - (i + 1), by omega, i + 1, by omega, rfl, rfl⟩⟩
  · have him : i = m := by omega
    subst him
    rw [List.take_of_length_le (by omega)]
    rw [callX_eq]
    refine Wp.jmono.call (K := fun s1 H1 => Keep [] H' H1 ∧ (ps.many = 0 ∧ s1 = .nils ∨ 0 < ps.many ∧ ∃ r, s1 = .sl H'.next 0 0 none e ∧ H1.get H'.next = some (.cells true r) ∧ r.length = ps.many * sz ∧ H'.next < H1.next)) ?_
      (grow_w hT hg hz hsz hN hN2 (fun h0 => ⟨Keep.refl _ _, .inl ⟨h0, rfl⟩⟩) (fun h1 => ⟨Keep.push _ _ _, .inr ⟨h1, _, rfl, get_push_new _ _, by rw [zeros_length, hz], by simp⟩⟩))
    rintro s1 H1 ⟨hk1, hs1⟩
    simp -dsimp only [cX_seq, cX_reg, cX_block, cX_loop, regX_cons, regX_nil, evs, ev, Env.get, evX_some, Env.putO, Env.keep, outX_normal, opX_move, opX_len_sl]
    rw [loopX_eq]
    refine Wp.loop hT (fun k e' H2 => ∃ j s2, j ≤ i ∧ k = i - j ∧ Keep [] H' H2 ∧ (ps.many = 0 ∧ s2 = .nils ∨ 0 < ps.many ∧ ∃ r, s2 = .sl H'.next 0 (Parts.many (ps.take j)) none e ∧ H2.get H'.next = some (.cells true (Parts.all (ps.take j) ++ r)) ∧ (Parts.all (ps.take j)).length = Parts.many (ps.take j) * sz ∧ r.length = (ps.many - Parts.many (ps.take j)) * sz ∧ H'.next < H2.next) ∧ e' = [(6, s2), (25, .sl b o i c e2), (26, .int .i64 (i : Int)), (27, .int .i64 (j : Int))]) ?_ i _ _ ⟨0, s1, by omega, rfl, hk1, ?_, rfl⟩
    · rintro k e' H2 ⟨j, s2, hj, rfl, hk2, hs2, rfl⟩
      simp -dsimp only [cX_seq, cX_reg, cX_cond, cX_block, cX_exit, cX_ret, cX_skip, regX_cons, regX_nil, evs, ev, Env.get, evX_some, Env.putO, Env.keep, outX_normal, outX_exit, retX_ret, resultsA, resultsL, resultOf, optX_some, opX_move, opX_bin, opX_load, opX_idxSl, bin_lss, brX_decide, Int.toNat_natCast, Nat.mul_one]
      refine ⟨fun hji => ?_, fun hge2 => ?_⟩
      · have hip : j < ps.length := by omega
        have el : H2.load none b (o + j) = some (ps[j]).1 := by rw [load_one (hk2.get hb' (by simp) hb)]; exact hps j hip
        obtain ⟨hs, hsb⟩ := hsl ps[j] (List.getElem_mem _)
        have hs' := hs.keep hk2 (by simp)
        have hp : ps.take (j + 1) = ps.take j ++ [ps[j]] := take_snoc hip
        have hpm : Parts.many (ps.take (j + 1)) = Parts.many (ps.take j) + (ps[j]).2.1 := by rw [hp, Parts.many_append]; simp [Parts.many]
        have hpa : Parts.all (ps.take (j + 1)) = Parts.all (ps.take j) ++ (ps[j]).2.2 := by rw [hp, Parts.all_append]; simp [Parts.all]
        have hle : Parts.many (ps.take (j + 1)) ≤ ps.many := by
          have := Parts.many_append (ps.take (j + 1)) (ps.drop (j + 1))
          rw [List.take_append_drop] at this; omega
        have ei : IntKind.i64.wrap ((j : Int) + 1) = ((j + 1 : Nat) : Int) := by rw [wrap_i64 (by omega) (by omega)]; omega
        have hlen := hs.length
        simp -dsimp only [el, opX_append, hs'.src, cX_reg, regX_cons, regX_nil, evs, ev, Env.get, evX_some, Env.putO, Env.keep, outX_normal, optX_some, opX_move]
        refine ⟨by omega, ?_⟩
        by_cases hz0 : (ps[j]).2.1 = 0
        · have hnil : (ps[j]).2.2 = [] := List.length_eq_zero_iff.1 (by rw [hlen, hz0, Nat.zero_mul])
          rw [hz0, hnil]
          have ha : appendA e sz y s2 0 [] H2 = some (s2, H2) := by
            rcases hs2 with ⟨_, rfl⟩ | ⟨_, r, rfl, _⟩ <;> simp [appendA]
          simp -dsimp only [ha, ei, cX_reg, regX_cons, regX_nil, evs, ev, Env.get, evX_some, Env.putO, Env.keep, outX_normal, optX_some, opX_move, opX_bin, bin_add_i64]
          refine ⟨i - (j + 1), by omega, j + 1, s2, by omega, rfl, hk2, ?_, rfl⟩
          rw [hpm, hpa, hz0, hnil]
          simpa using hs2
        · rcases hs2 with ⟨h00, _⟩ | ⟨hpos, r, rfl, hg2, hl2, hr2, hn2⟩
          · exact absurd (Nat.eq_zero_of_le_zero (by omega : (ps[j]).2.1 ≤ 0)) hz0
          · have hroom : (Parts.many (ps.take j) + (ps[j]).2.1) * y ≤ 2 ^ 40 := by
              rw [← hpm]; exact Nat.le_trans (Nat.mul_le_mul_right y hle) hN
            have hkr : (ps[j]).2.1 * sz ≤ r.length := by rw [hr2]; exact Nat.mul_le_mul_right sz (by omega)
            have ha := app_room (e := e) (y := y) hg2 hl2 hlen hkr (by omega) hroom
            simp -dsimp only [ha, ei, cX_reg, regX_cons, regX_nil, evs, ev, Env.get, evX_some, Env.putO, Env.keep, outX_normal, optX_some, opX_move, opX_bin, bin_add_i64, Heap.next_set]
            refine ⟨i - (j + 1), by omega, j + 1, _, by omega, rfl, hk2.trans' (Keep.set (S := [H'.next]) _ (.inr (by simp))) (by simp), .inr ⟨hpos, r.drop ((ps[j]).2.1 * sz), by rw [hpm], ?_, ?_, ?_, by simpa using hn2⟩, rfl⟩
            · rw [get_set_same, hpa]
            · rw [hpa, hpm, List.length_append, hl2, hlen, Nat.add_mul]
            · rw [List.length_drop, hr2, hpm, ← Nat.sub_mul, Nat.sub_sub]
      · have hji : j = i := by omega
        subst hji
        rw [List.take_of_length_le (by omega)] at hs2
        refine h s2 H2 ⟨?_, hk2, ?_⟩
        · rcases hs2 with ⟨h00, rfl⟩ | ⟨hpos, r, rfl, hg2, hl2, hr2, hn2⟩
          · have : ps.all = [] := by
              have key : ∀ q : Parts, (∀ p ∈ q, Sl H' e sz p.1 p.2.1 p.2.2) → Parts.many q = 0 → Parts.all q = [] := by
                intro q
                induction q with
                | nil => intro _ _; rfl
                | cons x t ih =>
                  intro hq hm0
                  simp only [Parts.many] at hm0
                  have hx := (hq x (by simp)).length
                  have : x.2.2 = [] := List.length_eq_zero_iff.1 (by rw [hx, show x.2.1 = 0 by omega, Nat.zero_mul])
                  simp only [Parts.all, this, ih (fun p hp => hq p (by simp [hp])) (by omega), List.append_nil]
              exact key ps (fun p hp => (hsl p hp).1) h00
            rw [h00, this]; exact .nils
          · have : r = [] := List.length_eq_zero_iff.1 (by rw [hr2, Nat.sub_self, Nat.zero_mul])
            subst this
            rw [List.append_nil] at hg2
            exact .own _ _ _ hg2 hl2 hn2
        · intro x hx
          rcases hs2 with ⟨_, rfl⟩ | ⟨_, r, rfl, _⟩
          · simp [sblk] at hx
          · simp [sblk] at hx; exact .inr (by omega)
    · rcases hs1 with ⟨h00, rfl⟩ | ⟨hpos, r, rfl, hg, hr, hn⟩
      · exact .inl ⟨h00, rfl⟩
      · exact .inr ⟨hpos, r, by simp [Parts.many], by simpa [Parts.all] using hg, by simp [Parts.many, Parts.all], by simpa [Parts.many] using hr, hn⟩
end Go.AE
