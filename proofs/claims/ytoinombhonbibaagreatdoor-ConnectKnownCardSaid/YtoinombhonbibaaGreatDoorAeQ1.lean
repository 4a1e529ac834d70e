/-
  What the closed run asks of SHA, each worked out once. Written by a program (mk_memo.py).
-/
import Derived.Test.YtoinombhonbibaaGreatDoorAeSha
import Derived.Test.YtoinombhonbibaaGreatDoorAeW3
import Derived.KernelRfl
set_option linter.unusedSimpArgs false
set_option linter.unusedVariables false
set_option linter.unusedSectionVars false
set_option maxRecDepth 100000
namespace Go.AE
def eqN : List Nat → List Nat → Bool
  | [], [] => true
  | x :: r, y :: s => match Nat.beq x y with
    | true => eqN r s
    | false => false
  | _, _ => false
theorem eqN_eq : ∀ {l m : List Nat}, eqN l m = true → l = m
  | [], [], _ => rfl
  | [], _ :: _, h => by simp [eqN] at h
  | _ :: _, [], h => by simp [eqN] at h
  | x :: r, y :: s, h => by
    unfold eqN at h
    split at h
    · rename_i hb
      rw [Nat.eq_of_beq_eq_true hb, eqN_eq h]
    · cases h
def memo3 (f : List Nat → List Nat → List Nat) : List (List Nat × List Nat × List Nat) → List Nat → List Nat → List Nat
  | [], s, l => f s l
  | (s', l', r) :: t, s, l => match eqN s s' with
    | true => match eqN l l' with
      | true => r
      | false => memo3 f t s l
    | false => memo3 f t s l
theorem memo3_eq {f : List Nat → List Nat → List Nat} : ∀ {t : List (List Nat × List Nat × List Nat)}, (∀ e ∈ t, f e.1 e.2.1 = e.2.2) → ∀ s l, memo3 f t s l = f s l
  | [], _, s, l => rfl
  | (s', l', r) :: t, h, s, l => by
    have ih := memo3_eq (f := f) (t := t) (fun e he => h e (List.mem_cons_of_mem _ he)) s l
    unfold memo3
    split
    · rename_i h1
      split
      · rename_i h2
        rw [eqN_eq h1, eqN_eq h2]
        exact (h (s', l', r) List.mem_cons_self).symm
      · exact ih
    · exact ih
def memo1 (f : List Nat → List Nat) : List (List Nat × List Nat) → List Nat → List Nat
  | [], l => f l
  | (l', r) :: t, l => match eqN l l' with
    | true => r
    | false => memo1 f t l
theorem memo1_eq {f : List Nat → List Nat} : ∀ {t : List (List Nat × List Nat)}, (∀ e ∈ t, f e.1 = e.2) → ∀ l, memo1 f t l = f l
  | [], _, l => rfl
  | (l', r) :: t, h, l => by
    have ih := memo1_eq (f := f) (t := t) (fun e he => h e (List.mem_cons_of_mem _ he)) l
    unfold memo1
    split
    · rename_i h2
      rw [eqN_eq h2]
      exact (h (l', r) List.mem_cons_self).symm
    · exact ih
def ms0 : List Nat := [1779033703, 3144134277, 1013904242, 2773480762, 1359893119, 2600822924, 528734635, 1541459225]
def ml0 : List Nat := [1, 0, 0, 0, 1, 0, 0, 0, 0, 0, 0, 0, 0, 0, 0, 0, 0, 0, 0, 0, 0, 0, 0, 0, 0, 0, 0, 0, 0, 0, 0, 0, 0, 0, 0, 0, 0, 255, 255, 255, 255, 2, 1, 1, 0, 0, 0, 0, 1, 50, 0, 0, 0, 0, 0, 0, 0, 0, 0, 0, 0, 0, 128, 0]
def mr0 : List Nat := [1098964761, 2024185537, 3397378705, 850456949, 3086986325, 1099224481, 2895807500, 2229625402]
theorem mo0 : eqN (change3 ms0 ml0) mr0 = true := by kernel_rfl
def ms1 : List Nat := [1098964761, 2024185537, 3397378705, 850456949, 3086986325, 1099224481, 2895807500, 2229625402]
def ml1 : List Nat := [0, 0, 0, 0, 0, 0, 0, 0, 0, 0, 0, 0, 0, 0, 0, 0, 0, 0, 0, 0, 0, 0, 0, 0, 0, 0, 0, 0, 0, 0, 0, 0, 0, 0, 0, 0, 0, 0, 0, 0, 0, 0, 0, 0, 0, 0, 0, 0, 0, 0, 0, 0, 0, 0, 0, 0, 0, 0, 0, 0, 0, 0, 1, 240]
def mr1 : List Nat := [3891840485, 2250802637, 1877898151, 518711695, 3891780521, 2610930070, 1174685607, 3020801724]
theorem mo1 : eqN (change3 ms1 ml1) mr1 = true := by kernel_rfl
def ms2 : List Nat := [1779033703, 3144134277, 1013904242, 2773480762, 1359893119, 2600822924, 528734635, 1541459225]
def ml2 : List Nat := [231, 248, 197, 229, 134, 40, 133, 205, 111, 238, 115, 167, 30, 234, 233, 143, 231, 247, 219, 169, 155, 159, 161, 150, 70, 4, 71, 167, 180, 13, 198, 188, 128, 0, 0, 0, 0, 0, 0, 0, 0, 0, 0, 0, 0, 0, 0, 0, 0, 0, 0, 0, 0, 0, 0, 0, 0, 0, 0, 0, 0, 0, 1, 0]
def mr2 : List Nat := [983855560, 2440657918, 1301913587, 611623384, 1158903306, 3616089434, 1395456320, 1300396282]
theorem mo2 : eqN (change3 ms2 ml2) mr2 = true := by kernel_rfl
def ms3 : List Nat := [1779033703, 3144134277, 1013904242, 2773480762, 1359893119, 2600822924, 528734635, 1541459225]
def ml3 : List Nat := [1, 0, 0, 0, 1, 0, 0, 0, 0, 0, 0, 0, 0, 0, 0, 0, 0, 0, 0, 0, 0, 0, 0, 0, 0, 0, 0, 0, 0, 0, 0, 0, 0, 0, 0, 0, 0, 255, 255, 255, 255, 2, 1, 2, 0, 0, 0, 0, 1, 50, 0, 0, 0, 0, 0, 0, 0, 0, 0, 0, 0, 0, 128, 0]
def mr3 : List Nat := [917674510, 2868038852, 2301382489, 126934673, 1233470868, 2934195147, 3178255077, 3341894610]
theorem mo3 : eqN (change3 ms3 ml3) mr3 = true := by kernel_rfl
def ms4 : List Nat := [917674510, 2868038852, 2301382489, 126934673, 1233470868, 2934195147, 3178255077, 3341894610]
def ml4 : List Nat := [0, 0, 0, 0, 0, 0, 0, 0, 0, 0, 0, 0, 0, 0, 0, 0, 0, 0, 0, 0, 0, 0, 0, 0, 0, 0, 0, 0, 0, 0, 0, 0, 0, 0, 0, 0, 0, 0, 0, 0, 0, 0, 0, 0, 0, 0, 0, 0, 0, 0, 0, 0, 0, 0, 0, 0, 0, 0, 0, 0, 0, 0, 1, 240]
def mr4 : List Nat := [3043483923, 2003506544, 4245728446, 4250478955, 3843165107, 1197008769, 1005190786, 2121215128]
theorem mo4 : eqN (change3 ms4 ml4) mr4 = true := by kernel_rfl
def ms5 : List Nat := [1779033703, 3144134277, 1013904242, 2773480762, 1359893119, 2600822924, 528734635, 1541459225]
def ml5 : List Nat := [181, 103, 225, 19, 119, 107, 21, 112, 253, 16, 172, 190, 253, 89, 41, 107, 229, 18, 11, 179, 71, 88, 231, 129, 59, 233, 254, 130, 126, 111, 44, 152, 128, 0, 0, 0, 0, 0, 0, 0, 0, 0, 0, 0, 0, 0, 0, 0, 0, 0, 0, 0, 0, 0, 0, 0, 0, 0, 0, 0, 0, 0, 1, 0]
def mr5 : List Nat := [1330405959, 4129545055, 394107633, 1285702235, 1885131100, 3906608267, 3333519583, 3254571010]
theorem mo5 : eqN (change3 ms5 ml5) mr5 = true := by kernel_rfl
def ms6 : List Nat := [1779033703, 3144134277, 1013904242, 2773480762, 1359893119, 2600822924, 528734635, 1541459225]
def ml6 : List Nat := [1, 0, 0, 0, 1, 58, 164, 113, 200, 145, 121, 123, 254, 77, 153, 159, 243, 36, 116, 161, 216, 69, 19, 118, 10, 215, 137, 37, 90, 83, 44, 249, 64, 77, 130, 120, 250, 0, 0, 0, 0, 0, 0, 0, 0, 0, 1, 49, 0, 0, 0, 0, 0, 0, 0, 0, 0, 0, 0, 0, 128, 0, 0, 0]
def mr6 : List Nat := [3982463449, 1299744984, 2520236551, 4214031630, 1289840077, 102587958, 1524865326, 451951705]
theorem mo6 : eqN (change3 ms6 ml6) mr6 = true := by kernel_rfl
def ms7 : List Nat := [3982463449, 1299744984, 2520236551, 4214031630, 1289840077, 102587958, 1524865326, 451951705]
def ml7 : List Nat := [0, 0, 0, 0, 0, 0, 0, 0, 0, 0, 0, 0, 0, 0, 0, 0, 0, 0, 0, 0, 0, 0, 0, 0, 0, 0, 0, 0, 0, 0, 0, 0, 0, 0, 0, 0, 0, 0, 0, 0, 0, 0, 0, 0, 0, 0, 0, 0, 0, 0, 0, 0, 0, 0, 0, 0, 0, 0, 0, 0, 0, 0, 1, 224]
def mr7 : List Nat := [2580573982, 3239900650, 3939641463, 889725883, 300689516, 3047145571, 1282250874, 697085950]
theorem mo7 : eqN (change3 ms7 ml7) mr7 = true := by kernel_rfl
def ms8 : List Nat := [1779033703, 3144134277, 1013904242, 2773480762, 1359893119, 2600822924, 528734635, 1541459225]
def ml8 : List Nat := [153, 208, 111, 30, 193, 28, 245, 234, 234, 210, 40, 119, 53, 8, 35, 187, 17, 236, 40, 108, 181, 159, 192, 99, 76, 109, 152, 122, 41, 140, 175, 254, 128, 0, 0, 0, 0, 0, 0, 0, 0, 0, 0, 0, 0, 0, 0, 0, 0, 0, 0, 0, 0, 0, 0, 0, 0, 0, 0, 0, 0, 0, 1, 0]
def mr8 : List Nat := [1817255964, 3378675347, 3890587205, 402607347, 3652244322, 114545761, 4210563297, 4085120345]
theorem mo8 : eqN (change3 ms8 ml8) mr8 = true := by kernel_rfl
def nl0 : List Nat := [0, 1, 0, 0, 0, 0, 0, 0, 0, 0, 0, 0, 0, 0, 0, 0, 0, 0, 0, 0, 0, 0, 0, 0, 0, 0, 0, 0, 0, 0, 0, 0, 0, 58, 164, 113, 200, 145, 121, 123, 254, 77, 153, 159, 243, 36, 116, 161, 216, 69, 19, 118, 10, 215, 137, 37, 90, 83, 44, 249, 64, 77, 130, 120, 250, 0, 0, 0, 0, 1, 0, 0, 0, 1, 50, 0, 0, 0, 0, 0, 0, 0, 0]
def nr0 : List Nat := [245, 97, 119, 11, 83, 87, 5, 208, 34, 47, 219, 67, 250, 231, 103, 109, 22, 207, 19, 57, 110, 102, 137, 163, 80, 255, 212, 119, 236, 26, 119, 40]
theorem no0 : eqN (sha256N nl0) nr0 = true := by kernel_rfl
def nl1 : List Nat := [0, 2, 0, 0, 0, 0, 0, 0, 0, 0, 0, 0, 0, 0, 0, 0, 0, 0, 0, 0, 0, 0, 0, 0, 0, 0, 0, 0, 0, 0, 0, 0, 0, 79, 76, 98, 71, 246, 35, 219, 95, 23, 125, 154, 241, 76, 162, 66, 91, 112, 92, 209, 92, 232, 218, 28, 139, 198, 177, 120, 223, 193, 252, 208, 2, 0, 0, 0, 0, 2, 0, 0, 0, 1, 50, 0, 0, 0, 0, 0, 0, 0, 0]
def nr1 : List Nat := [29, 71, 219, 218, 71, 12, 212, 211, 102, 127, 207, 73, 4, 125, 110, 184, 215, 100, 207, 254, 238, 207, 159, 190, 78, 245, 92, 242, 169, 39, 53, 6]
theorem no1 : eqN (sha256N nl1) nr1 = true := by kernel_rfl
def nl2 : List Nat := [0, 2, 0, 0, 0, 0, 0, 0, 0, 0, 0, 0, 0, 0, 0, 0, 0, 0, 0, 0, 0, 0, 0, 0, 0, 0, 0, 0, 0, 0, 0, 0, 0, 108, 81, 32, 28, 201, 98, 126, 147, 231, 229, 166, 69, 23, 255, 76, 243, 217, 176, 211, 98, 6, 211, 212, 97, 250, 248, 24, 225, 243, 125, 253, 89, 0, 0, 0, 0, 2, 0, 0, 0, 0, 49, 0, 0, 0, 0, 0, 0, 0, 0]
def nr2 : List Nat := [24, 205, 74, 227, 237, 205, 92, 19, 110, 152, 208, 192, 126, 178, 99, 194, 114, 51, 215, 137, 149, 181, 225, 166, 36, 143, 241, 120, 188, 207, 153, 248]
theorem no2 : eqN (sha256N nl2) nr2 = true := by kernel_rfl
def nl3 : List Nat := [0, 1, 0, 0, 0, 0, 0, 0, 0, 0, 0, 0, 0, 0, 0, 0, 0, 0, 0, 0, 0, 0, 0, 0, 0, 0, 0, 0, 0, 0, 0, 0, 0, 58, 164, 113, 200, 145, 121, 123, 254, 77, 153, 159, 243, 36, 116, 161, 216, 69, 19, 118, 10, 215, 137, 37, 90, 83, 44, 249, 64, 77, 130, 120, 250, 0, 0, 0, 0, 1, 0, 0, 0, 1, 60, 0, 0, 0, 0, 0, 0, 0, 0]
def nr3 : List Nat := [37, 74, 159, 156, 106, 179, 123, 137, 31, 166, 51, 42, 38, 76, 126, 215, 113, 109, 53, 111, 32, 164, 165, 79, 153, 255, 215, 218, 55, 203, 203, 15]
theorem no3 : eqN (sha256N nl3) nr3 = true := by kernel_rfl
def memoC : List (List Nat × List Nat × List Nat) := [(ms0, ml0, mr0), (ms1, ml1, mr1), (ms2, ml2, mr2), (ms3, ml3, mr3), (ms4, ml4, mr4), (ms5, ml5, mr5), (ms6, ml6, mr6), (ms7, ml7, mr7), (ms8, ml8, mr8)]
def memoS : List (List Nat × List Nat) := [(nl0, nr0), (nl1, nr1), (nl2, nr2), (nl3, nr3)]
theorem memoC_ok : ∀ e ∈ memoC, change3 e.1 e.2.1 = e.2.2 := by
  intro e he
  simp only [memoC, List.mem_cons, List.not_mem_nil, or_false] at he
  rcases he with rfl | rfl | rfl | rfl | rfl | rfl | rfl | rfl | rfl
  · exact eqN_eq mo0
  · exact eqN_eq mo1
  · exact eqN_eq mo2
  · exact eqN_eq mo3
  · exact eqN_eq mo4
  · exact eqN_eq mo5
  · exact eqN_eq mo6
  · exact eqN_eq mo7
  · exact eqN_eq mo8
theorem memoS_ok : ∀ e ∈ memoS, sha256N e.1 = e.2 := by
  intro e he
  simp only [memoS, List.mem_cons, List.not_mem_nil, or_false] at he
  rcases he with rfl | rfl | rfl | rfl
  · exact eqN_eq no0
  · exact eqN_eq no1
  · exact eqN_eq no2
  · exact eqN_eq no3
theorem changeM : memo3 change3 memoC = change3 := by
  funext s l; exact memo3_eq memoC_ok s l
theorem sumM : memo1 sha256N memoS = sha256N := by
  funext l; exact memo1_eq memoS_ok l
end Go.AE
