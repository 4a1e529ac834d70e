/-
  Copies of slices; a text filled up.
-/
import Derived.Test.YtefkjiedgecjpaaGreatDoorAeV3
set_option linter.unusedSimpArgs false
set_option linter.unusedVariables false
set_option linter.unusedSectionVars false
set_option maxHeartbeats 4000000
namespace Go.AE
/-- slices.Clone. -/
def cloneF (e sz y : Nat) (z : List AV) : IFunc := ⟨8, [.t 2], (.seq (.reg [⟨(some 2), .move, [.c .nils], none⟩] [0])
  (.seq (.seq (.reg [⟨(some 3), .move, [.t 0], none⟩, ⟨(some 4), (.eq false .slice), [.t 3, .c .nils], none⟩] [0, 4])
  (.cond (.t 4) (.seq (.reg [⟨(some 2), .move, [.c .nils], none⟩] [2])
  .ret) .skip))
  (.seq (.reg [⟨(some 5), (.buildSlice e 0 z []), [], none⟩, ⟨(some 6), .move, [.t 0], none⟩, ⟨(some 7), (.append e sz y z false), [.t 5, .t 6], none⟩, ⟨(some 2), .move, [.t 7], none⟩] [2])
  .ret)))⟩
theorem clone_133 : ir133 = cloneF 5 1 1 [.int .u8 0] := rfl

theorem clone_w {T : Nat → Option FSpec} (hT : TMono T) {f e sz y : Nat} {z : List AV} (hf : T f = some (.code (cloneF e sz y z))) (hsz : 0 < sz) {s : AV} {n : Nat} {l : List AV} {H : Heap} {K : AV → Heap → Prop} (hs : Sl H e sz s n l) (hn : n * y ≤ 2 ^ 40)
    (h : ∀ s' H', Acc e sz .nils H H' s' n l → (s = .nils ∧ s' = .nils ∨ ∃ b o n' c, s' = .sl b o n' c e) → K s' H') : Wp T (.call f [s] H K) := by
  refine Wp.fn hT hf rfl ?_
  simp -dsimp only [cX_seq, cX_reg, regX_cons, regX_nil, evs, ev, Env.get, evX_some, Env.putO, Env.keep, paramEnv, outX_normal, opX_move, opX_eqv]
  rcases hs.isNil with ⟨rfl, he⟩ | ⟨⟨b, o, c, rfl⟩, he⟩
  · have hnl : n = 0 ∧ l = [] := by cases hs; exact ⟨rfl, rfl⟩
    obtain ⟨rfl, rfl⟩ := hnl
    simp -dsimp only [he, cX_seq, cX_reg, cX_cond, cX_ret, regX_cons, regX_nil, evs, ev, Env.get, evX_some, Env.putO, Env.keep, outX_normal, outX_ret, retX_ret, resultsA, resultsL, resultOf, optX_some, opX_move, brX_true]
    exact h _ _ (Acc.refl .nils) (.inl ⟨rfl, rfl⟩)
  · have hk := Keep.push [] H (.cells true [])
    have hs' := hs.keep hk (by simp)
    have hx : Ex (H.push (.cells true [])) e sz (.sl H.next 0 0 (some 0) e) 0 [] := .empty _ (get_push_new _ _) (by simp)
    have hf : fillA (zeros z 0) [] [] = some [] := rfl
    simp -dsimp only [he, opX_buildSlice, opX_append, hf, hs'.src, cX_seq, cX_reg, cX_cond, cX_skip, regX_cons, regX_nil, evs, ev, Env.get, evX_some, Env.putO, Env.keep, outX_normal, optX_some, opX_move, brX_false]
    have hacc : Acc e sz .nils H (H.push (.cells true [])) (.sl H.next 0 0 (some 0) e) 0 [] := ⟨hx, Keep.push _ _ _, by simp [sblk]⟩
    by_cases hn0 : n = 0
    · subst hn0
      have hl : l = [] := by have := hs.length; simpa using this
      subst hl
      have ha : appendA e sz y (.sl H.next 0 0 (some 0) e) 0 [] (H.push (.cells true [])) = some (.sl H.next 0 0 (some 0) e, H.push (.cells true [])) := by simp [appendA]
      simp -dsimp only [ha, cX_ret, regX_cons, regX_nil, evs, ev, Env.get, evX_some, Env.putO, Env.keep, outX_normal, retX_ret, resultsA, resultsL, resultOf, optX_some, opX_move]
      exact h _ _ hacc (.inr ⟨_, _, _, _, rfl⟩)
    · obtain ⟨s2, H2, h1, h2, h3, h4⟩ := hacc.app (y := y) (k := n) (x := l) (by omega) hs.length hsz (by rw [Nat.zero_add]; exact hn)
      simp -dsimp only [h1, cX_ret, regX_cons, regX_nil, evs, ev, Env.get, evX_some, Env.putO, Env.keep, outX_normal, retX_ret, resultsA, resultsL, resultOf, optX_some, opX_move]
      rw [Nat.zero_add, List.nil_append] at h2
      refine h _ _ h2 (.inr ?_)
      cases h2.ex with
      | nils => omega
      | own b n l _ _ _ => exact ⟨_, _, _, _, rfl⟩
      | empty => exact ⟨_, _, _, _, rfl⟩

/-- layings by contract, too. -/
def tab3 : Nat → Option FSpec := over (over tab2 211 (low tab.get 211)) 210 (low tab2 210)
theorem tab3_mono : TMono tab3 := (tab2_mono.over low_mono).over low_mono
theorem call3_lay (args : List AV) (H : Heap) (K : AV → Heap → Prop) : callX (Wp tab3) 211 args H K = callX (Wp tab.get) 211 args H K := by
  rw [call_spec tab3_mono (f := 211) (S := low tab.get 211) rfl, callX_eq]; rfl
theorem call3_take (args : List AV) (H : Heap) (K : AV → Heap → Prop) : callX (Wp tab3) 210 args H K = callX (Wp tab2) 210 args H K := by
  rw [call_spec tab3_mono (f := 210) (S := low tab2 210) rfl, callX_eq]; rfl

theorem rem_nat (n m : Nat) (h : m ≠ 0) : binA .rem (.int .i64 (n : Int)) (.int .i64 (m : Int)) = some (.int .i64 ((n % m : Nat) : Int)) := by
  have : ¬ ((m : Int) = 0) := by omega
  simp only [bin_rem, this, if_false, Int.ofNat_tmod]

theorem fillZ_eq {n k : Nat} (h : k ≤ fillZ n) : ((n + 1 + k) % 128 = 112) ↔ k = fillZ n := by
  unfold fillZ at *
  omega

theorem filled_w {s : AV} {n : Nat} {l : List Nat} {H : Heap} {K : AV → Heap → Prop} (hs : Sl H 5 1 s n (bytesA l)) (hn : n ≤ 2 ^ 39)
    (h : ∀ s' H' n', Acc 5 1 .nils H H' s' n' (bytesA (filledN l)) → K s' H') : Wp tab3 (.call 209 [s] H K) := by
  refine Wp.fn tab3_mono (show tab3 209 = some (.code ir209) from rfl) rfl ?_
  simp -dsimp only [cX_seq, cX_reg, regX_cons, regX_nil, evs, ev, Env.get, evX_some, Env.putO, Env.keep, paramEnv, outX_normal, opX_move, opX_call, List.nil_append, List.append_nil]
  have hll : l.length = n := by have := hs.length; simpa using this
  have hnl := Ex.nils (H := H) (e := 5) (sz := 1)
  rw [callX_eq]
  refine clone_w tab3_mono (show tab3 133 = some (.code (cloneF 5 1 1 [.int .u8 0])) from rfl) (by decide) hs (by omega) ?_
  intro s1 H1 h1 hs1
  have hf : fillA (zeros [.int .u8 ((0 : Nat) : Int)] 1) [(0, 1)] [.int .u8 ((128 : Nat) : Int)] = some [.int .u8 ((128 : Nat) : Int)] := rfl
  simp -dsimp only [opX_buildSlice, opX_append, fill_int, src_one, regX_cons, evs, ev, Env.get, evX_some, Env.putO, optX_some, Int.ofNat_eq_natCast]
  obtain ⟨s2, H2, g1, g2, g3⟩ := h1.app1 (y := 1) (.int .u8 ((128 : Nat) : Int)) (.cells true [.int .u8 ((128 : Nat) : Int)]) (by omega)
  simp -dsimp only [g1, cX_seq, cX_block, cX_loop, regX_cons, regX_nil, evs, ev, Env.get, evX_some, Env.putO, Env.keep, outX_normal, optX_some, opX_move]
  rw [loopX_eq]
  have hsl : ∀ H', Keep [] H H' → Sl H' 5 1 s n (bytesA l) := fun H' hk => hs.keep hk (by simp)
  refine Wp.loop tab3_mono (fun m e' H' => ∃ k s', k ≤ fillZ n ∧ m = fillZ n - k ∧ Acc 5 1 .nils H H' s' (n + 1 + k) (bytesA (l ++ 128 :: List.replicate k 0)) ∧ e' = [(0, s), (3, s')]) ?_ (fillZ n) _ _ ⟨0, s2, by omega, rfl, by simpa [bytesA] using g2, rfl⟩
  rintro m e' H3 ⟨k, s3, hk, rfl, ha, rfl⟩
  have hz : fillZ n < 128 := by unfold fillZ; omega
  simp -dsimp only [ha.ex.sl.len, rem_nat _ 128 (by decide), cX_seq, cX_reg, cX_cond, cX_block, cX_exit, cX_skip, regX_cons, regX_nil, evs, ev, Env.get, evX_some, Env.putO, Env.keep, outX_normal, outX_exit, optX_some, opX_move, opX_bin, bin_neq, brX_ndecide, Int.ofNat_eq_natCast]
  refine ⟨fun hne => ?_, fun heq => ?_⟩
  · have hk' : k = fillZ n := (fillZ_eq hk).1 (by omega)
    subst hk'
    have em : n % 18446744073709551616 = n := Nat.mod_eq_of_lt (by omega)
    have e1 : Nat.min 61 IntKind.u64.bits = 61 := rfl
    have e2 : Nat.min 3 64 = 3 := rfl
    simp -dsimp only [hs.len, em, e1, call3_lay, regX_cons, evs, ev, Env.get, evX_some, Env.putO, optX_some, opX_bin, opX_call, bin_shr_nat, opX_cvU64, List.nil_append, List.append_nil, Int.ofNat_eq_natCast]
    rw [callX_eq]
    refine lay_w ha.ex (by omega) ?_
    intro s4 H4 h4
    simp -dsimp only [hs.len, em, e2, call3_lay, regX_cons, evs, ev, Env.get, evX_some, Env.putO, optX_some, opX_move, opX_bin, opX_call, bin_shl_u64, opX_cvU64, List.nil_append, List.append_nil, Int.ofNat_eq_natCast]
    rw [callX_eq]
    refine lay_w h4.ex (by omega) ?_
    intro s5 H5 h5
    simp -dsimp only [cX_ret, regX_cons, regX_nil, evs, ev, Env.get, evX_some, Env.putO, Env.keep, outX_normal, retX_ret, resultsA, resultsL, resultOf, optX_some, opX_move]
    have := (ha.trans h4).trans h5
    refine h _ _ _ (?_ : Acc 5 1 .nils H H5 s5 (n + 1 + fillZ n + 8 + 8) (bytesA (filledN l)))
    have e : filledN l = l ++ 128 :: List.replicate (fillZ n) 0 ++ layN (n / 2 ^ 61) ++ layN (n * 2 ^ 3 % 18446744073709551616) := by
      simp [filledN, hll]
    rw [e]; exact this
  · have hk' : k < fillZ n := by
      have := fillZ_eq hk
      have : k ≠ fillZ n := fun e => heq (by have := this.2 e; omega)
      omega
    obtain ⟨s4, H4, k1, k2, k3⟩ := ha.app1 (y := 1) (.int .u8 ((0 : Nat) : Int)) (.cells true [.int .u8 ((0 : Nat) : Int)]) (by omega)
    have hf0 : fillA (zeros [.int .u8 ((0 : Nat) : Int)] 1) [(0, 1)] [.int .u8 ((0 : Nat) : Int)] = some [.int .u8 ((0 : Nat) : Int)] := rfl
    simp -dsimp only [opX_buildSlice, opX_append, hf0, src_one, k1, regX_cons, regX_nil, evs, ev, Env.get, evX_some, Env.putO, Env.keep, outX_normal, optX_some, opX_move, Int.ofNat_eq_natCast]
    refine ⟨fillZ n - (k + 1), by omega, k + 1, s4, by omega, rfl, ?_, rfl⟩
    rw [List.replicate_succ', ← List.cons_append, ← List.append_assoc, bytesA_append]
    exact k2
end Go.AE
