/- The texts Zu in one. -/
import Derived.Test.YtmkjejngnahpeaaV16
import Derived.Deep.CutBlock
import Derived.BigRegion
import Derived.Deep.RegionHeldLaw
/- law07: DiskPlay: the pieces of its code by paths; the frame of its second loop; the tests of its switch. -/
namespace Go.Proofs.Ytmkjejngnahpeaa
open Go Go.Maps Go.RowKit

def cA : Code → Code | .seq a _ => a | c => c
def cB : Code → Code | .seq _ b => b | c => c
def cT : Code → Code | .cond _ t _ => t | c => c
def cE : Code → Code | .cond _ _ e => e | c => c
def cI : Code → Code | .block _ c => c | .loop c => c | c => c
noncomputable def playC : Code := match Try.f9.body with | some c => c | none => .skip
/-- what follows the loop over m -/
noncomputable def playX : Code := cB (cB (cB (cB (cB (cB (cB (cB (cB (cB playC)))))))))
/-- the second loop's round -/
noncomputable def playBody : Code := cI (cI (cB (cA playX)))
noncomputable def playStep : Code := cI (cA (cB playBody))
noncomputable def playE0 : Code := cI (cB (cA (cB (cB playStep))))
noncomputable def playTail : Code := cB (cB (cB playStep))
noncomputable def playA1 : Code := cT (cB playE0)
noncomputable def playE1 : Code := cE (cB playE0)
theorem play_eq1 : playE0 = .seq (cA playE0) (.cond (.tmp 105) playA1 playE1) := by kernel_rfl
noncomputable def playA2 : Code := cT (cB playE1)
noncomputable def playE2 : Code := cE (cB playE1)
theorem play_eq2 : playE1 = .seq (cA playE1) (.cond (.tmp 115) playA2 playE2) := by kernel_rfl
noncomputable def playA3 : Code := cT (cB playE2)
noncomputable def playE3 : Code := cE (cB playE2)
theorem play_eq3 : playE2 = .seq (cA playE2) (.cond (.tmp 167) playA3 playE3) := by kernel_rfl
noncomputable def playA4 : Code := cT (cB playE3)
noncomputable def playE4 : Code := cE (cB playE3)
theorem play_eq4 : playE3 = .seq (cA playE3) (.cond (.tmp 177) playA4 playE4) := by kernel_rfl
noncomputable def playA5 : Code := cT (cB playE4)
noncomputable def playE5 : Code := cE (cB playE4)
theorem play_eq5 : playE4 = .seq (cA playE4) (.cond (.tmp 183) playA5 playE5) := by kernel_rfl
noncomputable def playA6 : Code := cT (cB playE5)
noncomputable def playE6 : Code := cE (cB playE5)
theorem play_eq6 : playE5 = .seq (cA playE5) (.cond (.tmp 197) playA6 playE6) := by kernel_rfl
noncomputable def playA7 : Code := cT (cB playE6)
noncomputable def playE7 : Code := cE (cB playE6)
theorem play_eq7 : playE6 = .seq (cA playE6) (.cond (.tmp 207) playA7 playE7) := by kernel_rfl
noncomputable def playA8 : Code := cT (cB playE7)
noncomputable def playE8 : Code := cE (cB playE7)
theorem play_eq8 : playE7 = .seq (cA playE7) (.cond (.tmp 250) playA8 playE8) := by kernel_rfl
noncomputable def playA9 : Code := cT (cB playE8)
noncomputable def playE9 : Code := cE (cB playE8)
theorem play_eq9 : playE8 = .seq (cA playE8) (.cond (.tmp 271) playA9 playE9) := by kernel_rfl
noncomputable def playA10 : Code := cT (cB playE9)
noncomputable def playE10 : Code := cE (cB playE9)
theorem play_eq10 : playE9 = .seq (cA playE9) (.cond (.tmp 282) playA10 playE10) := by kernel_rfl
noncomputable def playA11 : Code := cT (cB playE10)
noncomputable def playE11 : Code := cE (cB playE10)
theorem play_eq11 : playE10 = .seq (cA playE10) (.cond (.tmp 290) playA11 playE11) := by kernel_rfl
noncomputable def playA14 : Code := cT (cB playE11)
noncomputable def playE14 : Code := cE (cB playE11)
theorem play_eq14 : playE11 = .seq (cA playE11) (.cond (.tmp 339) playA14 playE14) := by kernel_rfl
theorem play_end : playE14 = .skip := by kernel_rfl
/-- the frame of a round: what is read of it stands written out -/
def frR (ob : Option Addr) (n cb q p qo po j : Nat) (v14 v15 v16 v104 : Value) (u : Nat → Value) : Array Value := #[u 0, .slice ob n cb, u 2, u 3, u 4, u 5, .pointer (some ⟨q, 0, none⟩), u 7, u 8, .pointer (some ⟨p, 0, none⟩), .pointer (some ⟨qo, 0, none⟩), .pointer (some ⟨po, 0, none⟩), u 12, .int .i64 (j : Int), v14, v15, v16, u 17, u 18, u 19, u 20, u 21, u 22, u 23, u 24, u 25, u 26, u 27, u 28, u 29, u 30, u 31, u 32, u 33, u 34, u 35, u 36, u 37, u 38, u 39, u 40, u 41, u 42, u 43, u 44, u 45, u 46, u 47, u 48, u 49, u 50, u 51, u 52, u 53, u 54, u 55, u 56, u 57, u 58, u 59, u 60, u 61, u 62, u 63, u 64, u 65, u 66, u 67, u 68, u 69, u 70, u 71, u 72, u 73, u 74, u 75, u 76, u 77, u 78, u 79, u 80, u 81, u 82, u 83, u 84, u 85, u 86, u 87, u 88, u 89, u 90, u 91, u 92, u 93, u 94, u 95, u 96, u 97, u 98, u 99, u 100, u 101, u 102, u 103, v104, u 105, u 106, u 107, u 108, u 109, u 110, u 111, u 112, u 113, u 114, u 115, u 116, u 117, u 118, u 119, u 120, u 121, u 122, u 123, u 124, u 125, u 126, u 127, u 128, u 129, u 130, u 131, u 132, u 133, u 134, u 135, u 136, u 137, u 138, u 139, u 140, u 141, u 142, u 143, u 144, u 145, u 146, u 147, u 148, u 149, u 150, u 151, u 152, u 153, u 154, u 155, u 156, u 157, u 158, u 159, u 160, u 161, u 162, u 163, u 164, u 165, u 166, u 167, u 168, u 169, u 170, u 171, u 172, u 173, u 174, u 175, u 176, u 177, u 178, u 179, u 180, u 181, u 182, u 183, u 184, u 185, u 186, u 187, u 188, u 189, u 190, u 191, u 192, u 193, u 194, u 195, u 196, u 197, u 198, u 199, u 200, u 201, u 202, u 203, u 204, u 205, u 206, u 207, u 208, u 209, u 210, u 211, u 212, u 213, u 214, u 215, u 216, u 217, u 218, u 219, u 220, u 221, u 222, u 223, u 224, u 225, u 226, u 227, u 228, u 229, u 230, u 231, u 232, u 233, u 234, u 235, u 236, u 237, u 238, u 239, u 240, u 241, u 242, u 243, u 244, u 245, u 246, u 247, u 248, u 249, u 250, u 251, u 252, u 253, u 254, u 255, u 256, u 257, u 258, u 259, u 260, u 261, u 262, u 263, u 264, u 265, u 266, u 267, u 268, u 269, u 270, u 271, u 272, u 273, u 274, u 275, u 276, u 277, u 278, u 279, u 280, u 281, u 282, u 283, u 284, u 285, u 286, u 287, u 288, u 289, u 290, u 291, u 292, u 293, u 294, u 295, u 296, u 297, u 298, u 299, u 300, u 301, u 302, u 303, u 304, u 305, u 306, u 307, u 308, u 309, u 310, u 311, u 312, u 313, u 314, u 315, u 316, u 317, u 318, u 319, u 320, u 321, u 322, u 323, u 324, u 325, u 326, u 327, u 328, u 329, u 330, u 331, u 332, u 333, u 334, u 335, u 336, u 337, u 338, u 339, u 340, u 341, u 342, u 343, u 344, u 345, u 346, u 347, u 348, u 349, u 350, u 351, u 352, u 353, u 354, u 355, u 356, u 357, u 358, u 359, u 360, u 361, u 362, u 363, u 364, u 365, u 366, u 367, u 368, u 369, u 370, u 371, u 372, u 373, u 374, u 375, u 376, u 377, u 378, u 379, u 380]
theorem frR_go {ob : Option Addr} {n cb q p qo po j : Nat} {v14 v15 v16 v104 : Value} {c : Code} {Q : Exit → Act → World → Prop} {w : World} {l : Array Value} (h : l = frR ob n cb q p qo po j v14 v15 v16 v104 (fun k => l.toList.getD k undef)) (H : ∀ u, Code.wp Try.prog c Q ⟨frR ob n cb q p qo po j v14 v15 v16 v104 u, []⟩ w) : Code.wp Try.prog c Q ⟨l, []⟩ w := by
  rw [h]
  exact H _
section
variable {ob : Option Addr} {n cb q p qo po j : Nat} {v14 v15 v16 : Value} {kd : Int} {Q : Exit → Act → World → Prop} {w : World} {u : Nat → Value}
set_option maxRecDepth 100000 in
set_option maxHeartbeats 1000000 in
theorem play_test1 (h1 : kd = 1 → ∀ u, Code.wp Try.prog playA1 Q ⟨frR ob n cb q p qo po j v14 v15 v16 (.int .i64 kd) u, []⟩ w) (h2 : kd ≠ 1 → ∀ u, Code.wp Try.prog playE1 Q ⟨frR ob n cb q p qo po j v14 v15 v16 (.int .i64 kd) u, []⟩ w) : Code.wp Try.prog playE0 Q ⟨frR ob n cb q p qo po j v14 v15 v16 (.int .i64 kd) u, []⟩ w := by
  have H1 := Lib.hid h1
  have H2 := Lib.hid h2
  clear h1 h2
  rw [play_eq1]
  refine wp_seq_k fun K hK => ?_
  have HK := Lib.hid hK
  clear hK
  unfold frR
  conv => arg 2; whnf
  by_cases hk : kd = 1
  · have hd : (kd == 1) = true := by rw [beq_iff_eq]; exact hk
    have HKD := Lib.hid hk
    clear hk
    go_wp2_with fail
    refine HK.out _ _ (wp_cond_true (by rfl) ?_)
    exact frR_go (by kernel_rfl) (H1.out HKD.out)
  · have hd : (kd == 1) = false := by rw [beq_eq_false_iff_ne]; exact hk
    have HKD := Lib.hid hk
    clear hk
    go_wp2_with fail
    refine HK.out _ _ (wp_cond_false (by rfl) ?_)
    exact frR_go (by kernel_rfl) (H2.out HKD.out)
set_option maxRecDepth 100000 in
set_option maxHeartbeats 1000000 in
theorem play_test2 (h1 : kd = 2 → ∀ u, Code.wp Try.prog playA2 Q ⟨frR ob n cb q p qo po j v14 v15 v16 (.int .i64 kd) u, []⟩ w) (h2 : kd ≠ 2 → ∀ u, Code.wp Try.prog playE2 Q ⟨frR ob n cb q p qo po j v14 v15 v16 (.int .i64 kd) u, []⟩ w) : Code.wp Try.prog playE1 Q ⟨frR ob n cb q p qo po j v14 v15 v16 (.int .i64 kd) u, []⟩ w := by
  have H1 := Lib.hid h1
  have H2 := Lib.hid h2
  clear h1 h2
  rw [play_eq2]
  refine wp_seq_k fun K hK => ?_
  have HK := Lib.hid hK
  clear hK
  unfold frR
  conv => arg 2; whnf
  by_cases hk : kd = 2
  · have hd : (kd == 2) = true := by rw [beq_iff_eq]; exact hk
    have HKD := Lib.hid hk
    clear hk
    go_wp2_with fail
    refine HK.out _ _ (wp_cond_true (by rfl) ?_)
    exact frR_go (by kernel_rfl) (H1.out HKD.out)
  · have hd : (kd == 2) = false := by rw [beq_eq_false_iff_ne]; exact hk
    have HKD := Lib.hid hk
    clear hk
    go_wp2_with fail
    refine HK.out _ _ (wp_cond_false (by rfl) ?_)
    exact frR_go (by kernel_rfl) (H2.out HKD.out)
set_option maxRecDepth 100000 in
set_option maxHeartbeats 1000000 in
theorem play_test3 (h1 : kd = 3 → ∀ u, Code.wp Try.prog playA3 Q ⟨frR ob n cb q p qo po j v14 v15 v16 (.int .i64 kd) u, []⟩ w) (h2 : kd ≠ 3 → ∀ u, Code.wp Try.prog playE3 Q ⟨frR ob n cb q p qo po j v14 v15 v16 (.int .i64 kd) u, []⟩ w) : Code.wp Try.prog playE2 Q ⟨frR ob n cb q p qo po j v14 v15 v16 (.int .i64 kd) u, []⟩ w := by
  have H1 := Lib.hid h1
  have H2 := Lib.hid h2
  clear h1 h2
  rw [play_eq3]
  refine wp_seq_k fun K hK => ?_
  have HK := Lib.hid hK
  clear hK
  unfold frR
  conv => arg 2; whnf
  by_cases hk : kd = 3
  · have hd : (kd == 3) = true := by rw [beq_iff_eq]; exact hk
    have HKD := Lib.hid hk
    clear hk
    go_wp2_with fail
    refine HK.out _ _ (wp_cond_true (by rfl) ?_)
    exact frR_go (by kernel_rfl) (H1.out HKD.out)
  · have hd : (kd == 3) = false := by rw [beq_eq_false_iff_ne]; exact hk
    have HKD := Lib.hid hk
    clear hk
    go_wp2_with fail
    refine HK.out _ _ (wp_cond_false (by rfl) ?_)
    exact frR_go (by kernel_rfl) (H2.out HKD.out)
set_option maxRecDepth 100000 in
set_option maxHeartbeats 1000000 in
theorem play_test4 (h1 : kd = 4 → ∀ u, Code.wp Try.prog playA4 Q ⟨frR ob n cb q p qo po j v14 v15 v16 (.int .i64 kd) u, []⟩ w) (h2 : kd ≠ 4 → ∀ u, Code.wp Try.prog playE4 Q ⟨frR ob n cb q p qo po j v14 v15 v16 (.int .i64 kd) u, []⟩ w) : Code.wp Try.prog playE3 Q ⟨frR ob n cb q p qo po j v14 v15 v16 (.int .i64 kd) u, []⟩ w := by
  have H1 := Lib.hid h1
  have H2 := Lib.hid h2
  clear h1 h2
  rw [play_eq4]
  refine wp_seq_k fun K hK => ?_
  have HK := Lib.hid hK
  clear hK
  unfold frR
  conv => arg 2; whnf
  by_cases hk : kd = 4
  · have hd : (kd == 4) = true := by rw [beq_iff_eq]; exact hk
    have HKD := Lib.hid hk
    clear hk
    go_wp2_with fail
    refine HK.out _ _ (wp_cond_true (by rfl) ?_)
    exact frR_go (by kernel_rfl) (H1.out HKD.out)
  · have hd : (kd == 4) = false := by rw [beq_eq_false_iff_ne]; exact hk
    have HKD := Lib.hid hk
    clear hk
    go_wp2_with fail
    refine HK.out _ _ (wp_cond_false (by rfl) ?_)
    exact frR_go (by kernel_rfl) (H2.out HKD.out)
set_option maxRecDepth 100000 in
set_option maxHeartbeats 1000000 in
theorem play_test5 (h1 : kd = 5 → ∀ u, Code.wp Try.prog playA5 Q ⟨frR ob n cb q p qo po j v14 v15 v16 (.int .i64 kd) u, []⟩ w) (h2 : kd ≠ 5 → ∀ u, Code.wp Try.prog playE5 Q ⟨frR ob n cb q p qo po j v14 v15 v16 (.int .i64 kd) u, []⟩ w) : Code.wp Try.prog playE4 Q ⟨frR ob n cb q p qo po j v14 v15 v16 (.int .i64 kd) u, []⟩ w := by
  have H1 := Lib.hid h1
  have H2 := Lib.hid h2
  clear h1 h2
  rw [play_eq5]
  refine wp_seq_k fun K hK => ?_
  have HK := Lib.hid hK
  clear hK
  unfold frR
  conv => arg 2; whnf
  by_cases hk : kd = 5
  · have hd : (kd == 5) = true := by rw [beq_iff_eq]; exact hk
    have HKD := Lib.hid hk
    clear hk
    go_wp2_with fail
    refine HK.out _ _ (wp_cond_true (by rfl) ?_)
    exact frR_go (by kernel_rfl) (H1.out HKD.out)
  · have hd : (kd == 5) = false := by rw [beq_eq_false_iff_ne]; exact hk
    have HKD := Lib.hid hk
    clear hk
    go_wp2_with fail
    refine HK.out _ _ (wp_cond_false (by rfl) ?_)
    exact frR_go (by kernel_rfl) (H2.out HKD.out)
set_option maxRecDepth 100000 in
set_option maxHeartbeats 1000000 in
theorem play_test6 (h1 : kd = 6 → ∀ u, Code.wp Try.prog playA6 Q ⟨frR ob n cb q p qo po j v14 v15 v16 (.int .i64 kd) u, []⟩ w) (h2 : kd ≠ 6 → ∀ u, Code.wp Try.prog playE6 Q ⟨frR ob n cb q p qo po j v14 v15 v16 (.int .i64 kd) u, []⟩ w) : Code.wp Try.prog playE5 Q ⟨frR ob n cb q p qo po j v14 v15 v16 (.int .i64 kd) u, []⟩ w := by
  have H1 := Lib.hid h1
  have H2 := Lib.hid h2
  clear h1 h2
  rw [play_eq6]
  refine wp_seq_k fun K hK => ?_
  have HK := Lib.hid hK
  clear hK
  unfold frR
  conv => arg 2; whnf
  by_cases hk : kd = 6
  · have hd : (kd == 6) = true := by rw [beq_iff_eq]; exact hk
    have HKD := Lib.hid hk
    clear hk
    go_wp2_with fail
    refine HK.out _ _ (wp_cond_true (by rfl) ?_)
    exact frR_go (by kernel_rfl) (H1.out HKD.out)
  · have hd : (kd == 6) = false := by rw [beq_eq_false_iff_ne]; exact hk
    have HKD := Lib.hid hk
    clear hk
    go_wp2_with fail
    refine HK.out _ _ (wp_cond_false (by rfl) ?_)
    exact frR_go (by kernel_rfl) (H2.out HKD.out)
set_option maxRecDepth 100000 in
set_option maxHeartbeats 1000000 in
theorem play_test7 (h1 : kd = 7 → ∀ u, Code.wp Try.prog playA7 Q ⟨frR ob n cb q p qo po j v14 v15 v16 (.int .i64 kd) u, []⟩ w) (h2 : kd ≠ 7 → ∀ u, Code.wp Try.prog playE7 Q ⟨frR ob n cb q p qo po j v14 v15 v16 (.int .i64 kd) u, []⟩ w) : Code.wp Try.prog playE6 Q ⟨frR ob n cb q p qo po j v14 v15 v16 (.int .i64 kd) u, []⟩ w := by
  have H1 := Lib.hid h1
  have H2 := Lib.hid h2
  clear h1 h2
  rw [play_eq7]
  refine wp_seq_k fun K hK => ?_
  have HK := Lib.hid hK
  clear hK
  unfold frR
  conv => arg 2; whnf
  by_cases hk : kd = 7
  · have hd : (kd == 7) = true := by rw [beq_iff_eq]; exact hk
    have HKD := Lib.hid hk
    clear hk
    go_wp2_with fail
    refine HK.out _ _ (wp_cond_true (by rfl) ?_)
    exact frR_go (by kernel_rfl) (H1.out HKD.out)
  · have hd : (kd == 7) = false := by rw [beq_eq_false_iff_ne]; exact hk
    have HKD := Lib.hid hk
    clear hk
    go_wp2_with fail
    refine HK.out _ _ (wp_cond_false (by rfl) ?_)
    exact frR_go (by kernel_rfl) (H2.out HKD.out)
set_option maxRecDepth 100000 in
set_option maxHeartbeats 1000000 in
theorem play_test8 (h1 : kd = 8 → ∀ u, Code.wp Try.prog playA8 Q ⟨frR ob n cb q p qo po j v14 v15 v16 (.int .i64 kd) u, []⟩ w) (h2 : kd ≠ 8 → ∀ u, Code.wp Try.prog playE8 Q ⟨frR ob n cb q p qo po j v14 v15 v16 (.int .i64 kd) u, []⟩ w) : Code.wp Try.prog playE7 Q ⟨frR ob n cb q p qo po j v14 v15 v16 (.int .i64 kd) u, []⟩ w := by
  have H1 := Lib.hid h1
  have H2 := Lib.hid h2
  clear h1 h2
  rw [play_eq8]
  refine wp_seq_k fun K hK => ?_
  have HK := Lib.hid hK
  clear hK
  unfold frR
  conv => arg 2; whnf
  by_cases hk : kd = 8
  · have hd : (kd == 8) = true := by rw [beq_iff_eq]; exact hk
    have HKD := Lib.hid hk
    clear hk
    go_wp2_with fail
    refine HK.out _ _ (wp_cond_true (by rfl) ?_)
    exact frR_go (by kernel_rfl) (H1.out HKD.out)
  · have hd : (kd == 8) = false := by rw [beq_eq_false_iff_ne]; exact hk
    have HKD := Lib.hid hk
    clear hk
    go_wp2_with fail
    refine HK.out _ _ (wp_cond_false (by rfl) ?_)
    exact frR_go (by kernel_rfl) (H2.out HKD.out)
set_option maxRecDepth 100000 in
set_option maxHeartbeats 1000000 in
theorem play_test9 (h1 : kd = 9 → ∀ u, Code.wp Try.prog playA9 Q ⟨frR ob n cb q p qo po j v14 v15 v16 (.int .i64 kd) u, []⟩ w) (h2 : kd ≠ 9 → ∀ u, Code.wp Try.prog playE9 Q ⟨frR ob n cb q p qo po j v14 v15 v16 (.int .i64 kd) u, []⟩ w) : Code.wp Try.prog playE8 Q ⟨frR ob n cb q p qo po j v14 v15 v16 (.int .i64 kd) u, []⟩ w := by
  have H1 := Lib.hid h1
  have H2 := Lib.hid h2
  clear h1 h2
  rw [play_eq9]
  refine wp_seq_k fun K hK => ?_
  have HK := Lib.hid hK
  clear hK
  unfold frR
  conv => arg 2; whnf
  by_cases hk : kd = 9
  · have hd : (kd == 9) = true := by rw [beq_iff_eq]; exact hk
    have HKD := Lib.hid hk
    clear hk
    go_wp2_with fail
    refine HK.out _ _ (wp_cond_true (by rfl) ?_)
    exact frR_go (by kernel_rfl) (H1.out HKD.out)
  · have hd : (kd == 9) = false := by rw [beq_eq_false_iff_ne]; exact hk
    have HKD := Lib.hid hk
    clear hk
    go_wp2_with fail
    refine HK.out _ _ (wp_cond_false (by rfl) ?_)
    exact frR_go (by kernel_rfl) (H2.out HKD.out)
set_option maxRecDepth 100000 in
set_option maxHeartbeats 1000000 in
theorem play_test10 (h1 : kd = 10 → ∀ u, Code.wp Try.prog playA10 Q ⟨frR ob n cb q p qo po j v14 v15 v16 (.int .i64 kd) u, []⟩ w) (h2 : kd ≠ 10 → ∀ u, Code.wp Try.prog playE10 Q ⟨frR ob n cb q p qo po j v14 v15 v16 (.int .i64 kd) u, []⟩ w) : Code.wp Try.prog playE9 Q ⟨frR ob n cb q p qo po j v14 v15 v16 (.int .i64 kd) u, []⟩ w := by
  have H1 := Lib.hid h1
  have H2 := Lib.hid h2
  clear h1 h2
  rw [play_eq10]
  refine wp_seq_k fun K hK => ?_
  have HK := Lib.hid hK
  clear hK
  unfold frR
  conv => arg 2; whnf
  by_cases hk : kd = 10
  · have hd : (kd == 10) = true := by rw [beq_iff_eq]; exact hk
    have HKD := Lib.hid hk
    clear hk
    go_wp2_with fail
    refine HK.out _ _ (wp_cond_true (by rfl) ?_)
    exact frR_go (by kernel_rfl) (H1.out HKD.out)
  · have hd : (kd == 10) = false := by rw [beq_eq_false_iff_ne]; exact hk
    have HKD := Lib.hid hk
    clear hk
    go_wp2_with fail
    refine HK.out _ _ (wp_cond_false (by rfl) ?_)
    exact frR_go (by kernel_rfl) (H2.out HKD.out)
set_option maxRecDepth 100000 in
set_option maxHeartbeats 1000000 in
theorem play_test11 (h1 : kd = 11 ∨ kd = 12 → ∀ u, Code.wp Try.prog playA11 Q ⟨frR ob n cb q p qo po j v14 v15 v16 (.int .i64 kd) u, []⟩ w) (h2 : kd ≠ 11 ∧ kd ≠ 12 → ∀ u, Code.wp Try.prog playE11 Q ⟨frR ob n cb q p qo po j v14 v15 v16 (.int .i64 kd) u, []⟩ w) : Code.wp Try.prog playE10 Q ⟨frR ob n cb q p qo po j v14 v15 v16 (.int .i64 kd) u, []⟩ w := by
  have H1 := Lib.hid h1
  have H2 := Lib.hid h2
  clear h1 h2
  rw [play_eq11]
  refine wp_seq_k fun K hK => ?_
  have HK := Lib.hid hK
  clear hK
  unfold frR
  conv => arg 2; whnf
  by_cases hk : kd = 11
  · have hd : (kd == 11) = true := by rw [beq_iff_eq]; exact hk
    have HKD := Lib.hid hk
    clear hk
    go_wp2_with fail
    refine HK.out _ _ (wp_cond_true (by rfl) ?_)
    exact frR_go (by kernel_rfl) (H1.out (.inl HKD.out))
  · have hd : (kd == 11) = false := by rw [beq_eq_false_iff_ne]; exact hk
    have HKD := Lib.hid hk
    clear hk
    by_cases hk2 : kd = 12
    · have hd2 : (kd == 12) = true := by rw [beq_iff_eq]; exact hk2
      have HKE := Lib.hid hk2
      clear hk2
      go_wp2_with fail
      refine HK.out _ _ (wp_cond_true (by rfl) ?_)
      exact frR_go (by kernel_rfl) (H1.out (.inr HKE.out))
    · have hd2 : (kd == 12) = false := by rw [beq_eq_false_iff_ne]; exact hk2
      have HKE := Lib.hid hk2
      clear hk2
      go_wp2_with fail
      refine HK.out _ _ (wp_cond_false (by rfl) ?_)
      exact frR_go (by kernel_rfl) (H2.out ⟨HKD.out, HKE.out⟩)
set_option maxRecDepth 100000 in
set_option maxHeartbeats 1000000 in
theorem play_test14 (h1 : kd = 14 → ∀ u, Code.wp Try.prog playA14 Q ⟨frR ob n cb q p qo po j v14 v15 v16 (.int .i64 kd) u, []⟩ w) (h2 : kd ≠ 14 → ∀ u, Code.wp Try.prog playE14 Q ⟨frR ob n cb q p qo po j v14 v15 v16 (.int .i64 kd) u, []⟩ w) : Code.wp Try.prog playE11 Q ⟨frR ob n cb q p qo po j v14 v15 v16 (.int .i64 kd) u, []⟩ w := by
  have H1 := Lib.hid h1
  have H2 := Lib.hid h2
  clear h1 h2
  rw [play_eq14]
  refine wp_seq_k fun K hK => ?_
  have HK := Lib.hid hK
  clear hK
  unfold frR
  conv => arg 2; whnf
  by_cases hk : kd = 14
  · have hd : (kd == 14) = true := by rw [beq_iff_eq]; exact hk
    have HKD := Lib.hid hk
    clear hk
    go_wp2_with fail
    refine HK.out _ _ (wp_cond_true (by rfl) ?_)
    exact frR_go (by kernel_rfl) (H1.out HKD.out)
  · have hd : (kd == 14) = false := by rw [beq_eq_false_iff_ne]; exact hk
    have HKD := Lib.hid hk
    clear hk
    go_wp2_with fail
    refine HK.out _ _ (wp_cond_false (by rfl) ?_)
    exact frR_go (by kernel_rfl) (H2.out HKD.out)
end
end Go.Proofs.Ytmkjejngnahpeaa
