/-
  Slices that are appended to.
-/
import Derived.Test.YtefkjiedgecjpaaGreatDoorAeW1
set_option linter.unusedSimpArgs false
set_option linter.unusedVariables false
set_option linter.unusedSectionVars false
namespace Go.AE

/-- The blocks that a slice names. -/
def sblk : AV → List Nat
  | .sl b _ _ _ _ => [b]
  | _ => []

/-- A slice of its own block: n elements, these cells, no room behind. -/
inductive Ex (H : Heap) (e sz : Nat) : AV → Nat → List AV → Prop where
  | nils : Ex H e sz .nils 0 []
  | own (b n : Nat) (l : List AV) : H.get b = some (.cells true l) → l.length = n * sz → b < H.next → Ex H e sz (.sl b 0 n none e) n l
  | empty (b : Nat) : H.get b = some (.cells true []) → b < H.next → Ex H e sz (.sl b 0 0 (some 0) e) 0 []

theorem Ex.keep {H H' : Heap} {e sz : Nat} {s : AV} {n : Nat} {l : List AV} {S : List Nat} (h : Ex H e sz s n l) (hk : Keep S H H') (hd : ∀ b ∈ sblk s, b ∉ S) : Ex H' e sz s n l := by
  cases h with
  | nils => exact .nils
  | own b n l h1 h2 h3 => exact .own b n l ((hk.same b h3 (hd b (by simp [sblk]))).trans h1) h2 (Nat.lt_of_lt_of_le h3 hk.next)
  | empty b h1 h2 => exact .empty b ((hk.same b h2 (hd b (by simp [sblk]))).trans h1) (Nat.lt_of_lt_of_le h2 hk.next)

theorem Ex.length {H : Heap} {e sz : Nat} {s : AV} {n : Nat} {l : List AV} (h : Ex H e sz s n l) : l.length = n * sz := by
  cases h with
  | nils => simp
  | own b n l h1 h2 h3 => exact h2
  | empty b h1 h2 => simp

theorem Ex.lt {H : Heap} {e sz : Nat} {s : AV} {n : Nat} {l : List AV} (h : Ex H e sz s n l) : ∀ b ∈ sblk s, b < H.next := by
  intro b hb
  cases h with
  | nils => simp [sblk] at hb
  | own b n l h1 h2 h3 => simp [sblk] at hb; omega
  | empty b h1 h2 => simp [sblk] at hb; omega

theorem Ex.is_own {H : Heap} {e sz : Nat} {s : AV} {n : Nat} {l : List AV} (h : Ex H e sz s n l) (hl : l.length ≠ 0) : ∃ b, s = .sl b 0 n none e ∧ H.get b = some (.cells true l) ∧ l.length = n * sz ∧ b < H.next := by
  cases h with
  | nils => exact absurd rfl hl
  | own b n l h1 h2 h3 => exact ⟨b, rfl, h1, h2, h3⟩
  | empty b h1 h2 => exact absurd rfl hl

theorem append_ex {H : Heap} {e sz y : Nat} {s : AV} {n k : Nat} {l x : List AV} (hs : Ex H e sz s n l) (hk : 0 < k) (hx : x.length = k * sz) (hsz : 0 < sz) (hroom : (n + k) * y ≤ 2 ^ 40) :
    ∃ H', appendA e sz y s k x H = some (.sl H.next 0 (n + k) none e, H') ∧ Ex H' e sz (.sl H.next 0 (n + k) none e) (n + k) (l ++ x) ∧ Keep (sblk s) H H' ∧ H'.next = H.next + 1 := by
  have hlen : (l ++ x).length = (n + k) * sz := by rw [List.length_append, hs.length, hx, Nat.add_mul]
  have hk0 : k ≠ 0 := by omega
  cases hs with
  | nils =>
    simp only [Nat.zero_add] at hroom
    refine ⟨H.push (.cells true x), ?_, ?_, Keep.push _ _ _, by simp⟩
    · simp only [appendA, hk0, if_false, hroom, if_true, grown, forceL_eq, Nat.zero_add]
    · exact .own _ _ _ (by rw [List.nil_append]; exact get_push_new _ _) hlen (by simp)
  | own b n l h1 h2 h3 =>
    refine ⟨(H.kill b).push (.cells true (l ++ x)), ?_, ?_, ?_, by simp⟩
    · have h4 : ¬ (0 + (n + k) * sz ≤ l.length) := by
        have h6 := Nat.add_mul n k sz
        have : 0 < k * sz := Nat.mul_pos hk hsz
        omega
      have h5 : span l 0 (n * sz) = some l := by
        rw [span_is (by omega), List.drop_zero, List.take_of_length_le (by omega)]
      simp only [appendA, hk0, if_false, true_and, hroom, if_true, h1, h4, h5, grown, forceL_eq, Heap.next_kill]
    · exact .own _ _ _ (get_push_new _ _) hlen (by simp)
    · exact (Keep.kill (.inr (by simp [sblk]))).trans (Keep.push _ _ _)
  | empty b h1 h2 =>
    refine ⟨H.push (.cells true x), ?_, ?_, Keep.push _ _ _, by simp⟩
    · have h4 : ¬ (0 + k ≤ 0) := by omega
      have h5 : span ([] : List AV) 0 (0 * sz) = some [] := by simp [span]
      simp only [appendA, hk0, if_false, true_and, hroom, if_true, h1, h4, h5, grown, forceL_eq, List.nil_append]
    · exact .own _ _ _ (by rw [List.nil_append]; exact get_push_new _ _) hlen (by simp)

theorem src_sl {H : Heap} {sz b o n : Nat} {c : Option Nat} {e : Nat} {w : Bool} {cs : List AV} (hb : H.get b = some (.cells w cs)) (h : o + n * sz ≤ cs.length) : srcCells sz H (.sl b o n c e) = some (n, (cs.drop o).take (n * sz)) := by
  unfold srcCells
  by_cases hn : n = 0
  · subst hn; simp
  · simp only [hn, if_false, Heap.read, hb, span_is h]
theorem fill_int (k j : IntKind) (a b : Int) : fillA (zeros [.int k a] 1) [(0, 1)] [.int j b] = some [.int j b] := rfl
theorem src_one (H : Heap) (x : AV) (c : Option Nat) (e : Nat) : srcCells 1 (H.push (.cells true [x])) (.sl H.next 0 1 c e) = some (1, [x]) := by
  rw [src_sl (get_push_new _ _) (by simp)]; rfl
theorem append1_ex {H : Heap} {e y : Nat} {s : AV} {n : Nat} {l : List AV} {x : AV} {o : AObj} (hs : Ex H e 1 s n l) (hroom : (n + 1) * y ≤ 2 ^ 40) :
    ∃ H', appendA e 1 y s 1 [x] (H.push o) = some (.sl (H.next + 1) 0 (n + 1) none e, H') ∧ Ex H' e 1 (.sl (H.next + 1) 0 (n + 1) none e) (n + 1) (l ++ [x]) ∧ Keep (sblk s) H H' ∧ H'.next = H.next + 2 := by
  have h0 := hs.keep (Keep.push [] H o) (by simp)
  obtain ⟨H', h1, h2, h3, h4⟩ := append_ex (y := y) (k := 1) (x := [x]) h0 (by omega) (by simp) (by omega) hroom
  exact ⟨H', h1, h2, (Keep.push _ _ _).trans h3, by simpa using h4⟩
theorem Keep.trans' {S S' : List Nat} {H H' H'' : Heap} (h : Keep S H H') (h' : Keep S' H' H'') (hd : ∀ b ∈ S', b ∈ S ∨ H.next ≤ b) : Keep S H H'' :=
  ⟨Nat.le_trans h.next h'.next, fun b hb hn => (h'.same b (Nat.lt_of_lt_of_le hb h.next) fun hm => (hd b hm).elim hn fun h => by omega).trans (h.same b hb hn)⟩

/-- A slice that grew out of another one. -/
structure Acc (e sz : Nat) (s0 : AV) (H0 H : Heap) (s : AV) (n : Nat) (l : List AV) : Prop where
  ex : Ex H e sz s n l
  keep : Keep (sblk s0) H0 H
  fresh : ∀ b ∈ sblk s, b ∈ sblk s0 ∨ H0.next ≤ b
theorem Acc.refl {e sz : Nat} {s0 : AV} {H0 : Heap} {n : Nat} {l : List AV} (h : Ex H0 e sz s0 n l) : Acc e sz s0 H0 H0 s0 n l := ⟨h, Keep.refl _ _, fun _ hb => .inl hb⟩
theorem Acc.trans {e sz : Nat} {s0 s1 s2 : AV} {H0 H1 H2 : Heap} {n m : Nat} {l l' : List AV} (h : Acc e sz s0 H0 H1 s1 n l) (h' : Acc e sz s1 H1 H2 s2 m l') : Acc e sz s0 H0 H2 s2 m l' :=
  ⟨h'.ex, h.keep.trans' h'.keep h.fresh, fun b hb => (h'.fresh b hb).elim (h.fresh b) fun h1 => .inr (Nat.le_trans h.keep.next h1)⟩
/-- What was made ahead of it. -/
theorem Acc.ahead {e sz : Nat} {s0 s : AV} {H0 H1 H2 : Heap} {n : Nat} {l : List AV} (h0 : Keep [] H0 H1) (h : Acc e sz s0 H1 H2 s n l) : Acc e sz s0 H0 H2 s n l :=
  ⟨h.ex, (h0.mono (by simp)).trans h.keep, fun b hb => (h.fresh b hb).elim .inl fun h1 => .inr (Nat.le_trans h0.next h1)⟩
theorem Acc.behind {e sz : Nat} {s0 s : AV} {H0 H1 H2 : Heap} {n : Nat} {l : List AV} (h : Acc e sz s0 H0 H1 s n l) (h0 : Keep [] H1 H2) : Acc e sz s0 H0 H2 s n l :=
  ⟨h.ex.keep h0 (by simp), h.keep.trans (h0.mono (by simp)), h.fresh⟩
theorem Acc.app {e sz y : Nat} {s0 s : AV} {H0 H : Heap} {n k : Nat} {l x : List AV} (h : Acc e sz s0 H0 H s n l) (hk : 0 < k) (hx : x.length = k * sz) (hsz : 0 < sz) (hroom : (n + k) * y ≤ 2 ^ 40) :
    ∃ s2 H2, appendA e sz y s k x H = some (s2, H2) ∧ Acc e sz s0 H0 H2 s2 (n + k) (l ++ x) ∧ (∀ b ∈ sblk s2, H0.next ≤ b) ∧ H2.next = H.next + 1 := by
  obtain ⟨H', h1, h2, h3, h4⟩ := append_ex (y := y) h.ex hk hx hsz hroom
  have hf : ∀ b ∈ sblk (.sl H.next 0 (n + k) none e), H0.next ≤ b := by
    intro b hb; simp [sblk] at hb; subst hb; exact h.keep.next
  exact ⟨_, H', h1, ⟨h2, h.keep.trans' h3 h.fresh, fun b hb => .inr (hf b hb)⟩, hf, h4⟩
theorem Acc.app1 {e y : Nat} {s0 s : AV} {H0 H : Heap} {n : Nat} {l : List AV} (x : AV) (o : AObj) (h : Acc e 1 s0 H0 H s n l) (hroom : (n + 1) * y ≤ 2 ^ 40) :
    ∃ s2 H2, appendA e 1 y s 1 [x] (H.push o) = some (s2, H2) ∧ Acc e 1 s0 H0 H2 s2 (n + 1) (l ++ [x]) ∧ (∀ b ∈ sblk s2, H0.next ≤ b) := by
  obtain ⟨s2, H2, h1, h2, h3, _⟩ := (h.behind (Keep.push [] H o)).app (y := y) (k := 1) (x := [x]) (by omega) (by simp) (by omega) hroom
  exact ⟨s2, H2, h1, h2, h3⟩
/-- A slice that can be read: n elements, these cells. -/
inductive Sl (H : Heap) (e sz : Nat) : AV → Nat → List AV → Prop where
  | nils : Sl H e sz .nils 0 []
  | zero (b o : Nat) (c : Option Nat) : Sl H e sz (.sl b o 0 c e) 0 []
  | some (b o n : Nat) (c : Option Nat) (w : Bool) (cs l : List AV) : H.get b = some (.cells w cs) → o + n * sz ≤ cs.length → (cs.drop o).take (n * sz) = l → b < H.next → Sl H e sz (.sl b o n c e) n l
theorem Ex.sl {H : Heap} {e sz : Nat} {s : AV} {n : Nat} {l : List AV} (h : Ex H e sz s n l) : Sl H e sz s n l := by
  cases h with
  | nils => exact .nils
  | own b n l h1 h2 h3 => exact .some b 0 n none true l l h1 (by omega) (by rw [List.drop_zero, List.take_of_length_le (by omega)]) h3
  | empty b h1 h2 => exact .zero _ _ _
theorem Sl.length {H : Heap} {e sz : Nat} {s : AV} {n : Nat} {l : List AV} (h : Sl H e sz s n l) : l.length = n * sz := by
  cases h with
  | nils => simp
  | zero => simp
  | some b o n c w cs l h1 h2 h3 h4 => rw [← h3]; simp; omega
theorem Sl.keep {H H' : Heap} {e sz : Nat} {s : AV} {n : Nat} {l : List AV} {S : List Nat} (h : Sl H e sz s n l) (hk : Keep S H H') (hd : ∀ b ∈ sblk s, b ∉ S) : Sl H' e sz s n l := by
  cases h with
  | nils => exact .nils
  | zero => exact .zero _ _ _
  | some b o n c w cs l h1 h2 h3 h4 => exact .some b o n c w cs l (hk.get h4 (hd b (by simp [sblk])) h1) h2 h3 (Nat.lt_of_lt_of_le h4 hk.next)
theorem Sl.src {H : Heap} {e sz : Nat} {s : AV} {n : Nat} {l : List AV} (h : Sl H e sz s n l) : srcCells sz H s = Option.some (n, l) := by
  cases h with
  | nils => rfl
  | zero => simp [srcCells]
  | some b o n c w cs l h1 h2 h3 h4 => rw [src_sl h1 h2, h3]
theorem Sl.len {H : Heap} {e sz : Nat} {s : AV} {n : Nat} {l : List AV} (h : Sl H e sz s n l) {R : Job → Prop} {H' : Heap} {K : AV → Heap → Prop} : opX R (.len .sl) [s] H' K = K (.int .i64 n) H' := by
  cases h with
  | nils => rw [opX_len_nils]; rfl
  | zero => rw [opX_len_sl]
  | some b o n c w cs l h1 h2 h3 h4 => rw [opX_len_sl]
theorem Sl.isNil {H : Heap} {e sz : Nat} {s : AV} {n : Nat} {l : List AV} (h : Sl H e sz s n l) : (s = .nils ∧ aEq .slice s .nils = Option.some true) ∨ ((∃ b o c, s = .sl b o n c e) ∧ aEq .slice s .nils = Option.some false) := by
  cases h with
  | nils => exact .inl ⟨rfl, rfl⟩
  | zero => exact .inr ⟨⟨_, _, _, rfl⟩, rfl⟩
  | some b o n c w cs l h1 h2 h3 h4 => exact .inr ⟨⟨_, _, _, rfl⟩, rfl⟩

/-! ### Parts of slices -/
theorem bound_nat {k : IntKind} {i y : Nat} (h : i ≤ y) : bound (.int k i) y = some i := by
  have : (0 : Int) ≤ i ∧ (i : Int) ≤ y := ⟨by omega, by omega⟩
  simp only [bound, this, and_self, if_true, Int.toNat_natCast]
theorem slice_lo {sz e b o n : Nat} {c : Option Nat} {k : IntKind} {i : Nat} (h : i ≤ n) : sliceA (.sl sz e) true false false (.sl b o n c e) [.int k i] = some (.sl b (o + i * sz) (n - i) (c.map (· - i)) e) := by
  simp only [sliceA, bounds, bound_nat h, if_true, forceN_eq]
theorem slice_hi {sz e b o n : Nat} {c : Option Nat} {k : IntKind} {i : Nat} (h : i ≤ c.getD n) : sliceA (.sl sz e) false true false (.sl b o n c e) [.int k i] = some (.sl b o i c e) := by
  simp only [sliceA, bounds, bound_nat h, if_true, forceN_eq, Nat.zero_mul, Nat.add_zero, Nat.sub_zero]
  cases c <;> rfl
theorem slice_lohi {sz e b o n : Nat} {c : Option Nat} {k j : IntKind} {l i : Nat} (h : i ≤ c.getD n) (h' : l ≤ i) : sliceA (.sl sz e) true true false (.sl b o n c e) [.int k l, .int j i] = some (.sl b (o + l * sz) (i - l) (c.map (· - l)) e) := by
  simp only [sliceA, bounds, bound_nat h, bound_nat h', if_true, forceN_eq]
theorem slice_max {sz e b o n : Nat} {c : Option Nat} {k j q : IntKind} {l i m : Nat} (h : i ≤ m) (h' : l ≤ i) (hm : m ≤ c.getD n) : sliceA (.sl sz e) true true true (.sl b o n c e) [.int k l, .int j i, .int q m] = some (.sl b (o + l * sz) (i - l) (some (m - l)) e) := by
  simp only [sliceA, bounds, bound_nat h, bound_nat h', bound_nat hm, if_true, forceN_eq]
theorem slice_arr {n sz e b o : Nat} : sliceA (.arr n sz e) false false false (.ptr b o) [] = some (.sl b o n (some n) e) := by
  simp [sliceA, bounds]
theorem slice_arr_lo {n sz e b o : Nat} {k : IntKind} {i : Nat} (h : i ≤ n) : sliceA (.arr n sz e) true false false (.ptr b o) [.int k i] = some (.sl b (o + i * sz) (n - i) (some (n - i)) e) := by
  simp only [sliceA, bounds, bound_nat h, Option.getD_none]
theorem slice_arr_hi {n sz e b o : Nat} {k : IntKind} {i : Nat} (h : i ≤ n) : sliceA (.arr n sz e) false true false (.ptr b o) [.int k i] = some (.sl b o i (some n) e) := by
  simp only [sliceA, bounds, bound_nat h, Option.getD_none, Nat.zero_mul, Nat.add_zero, Nat.sub_zero]
end Go.AE
