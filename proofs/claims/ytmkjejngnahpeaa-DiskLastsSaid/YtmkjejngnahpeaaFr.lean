/- Disk: the document's Right. -/
import Derived.Test.YtmkjejngnahpeaaFq
namespace Go.Proofs.Ytmkjejngnahpeaa
open Go Go.Maps Go.RowKit

set_option maxRecDepth 100000 in
set_option maxHeartbeats 1000000 in
theorem refRight_b {w : World} {v : Value} {l : List (Int × Int)} (h : readAt w 2 v l.length (fateCells l)) (hm : l.length ≤ 1000000000) : Calls Try.prog 37 #[v] w fun e w' => e = .returned (.bool (!l.any badFate)) ∧ w' = w := by
  obtain ⟨oa, c, rfl⟩ := h.shape
  obtain ⟨n, hn⟩ : ∃ n, l.length = n := ⟨_, rfl⟩
  rw [hn] at h hm ⊢
  have HR := Lib.hid h
  have HN := Lib.hid hn
  clear h hn
  go_enter Try.func37, Try.ntmps37
  go_wp2_with fail
  go_loop [3] (fun i => ∃ j : Nat, j ≤ n ∧ i = .int .i64 j ∧ Hid ((l.take j).any badFate = false)) (fun i => n - (intOf i).toNat)
  case atStart => exact ⟨0, Nat.zero_le _, rfl, Lib.hid (by simp)⟩
  case round =>
    obtain ⟨j, hj, rfl, HA⟩ := hrel
    by_cases hlt : j < n
    · have hjl : j < l.length := by rw [HN.out]; exact hlt
      obtain ⟨g, off, rfl⟩ := HR.out.addr (by omega)
      obtain ⟨k, m, hx⟩ : ∃ k m, l[j] = (k, m) := ⟨_, _, rfl⟩
      have k0 : w.cell? ⟨g, off + j * 2, none⟩ = some (.int .i64 k) := by
        have := HR.out.cellAt (i := j * 2 + 0) (u := .int .i64 k) (by have := (fate_cells l j hjl).1; rw [hx, Nat.mul_comm] at this; exact this)
        simpa using this
      have HNX : Hid ((l.take (j + 1)).any badFate = badFate (k, m)) := Lib.hid (by rw [any_take_succ hjl, HA.out, hx]; rfl)
      have HXL : Hid (badFate (k, m) = true → l.any badFate = true) := Lib.hid (fun hv => List.any_eq_true.2 ⟨(k, m), by rw [← hx]; exact List.getElem_mem _, hv⟩)
      clear hx
      by_cases h0 : k < 0
      · have HB : Hid (l.any badFate = true) := Lib.hid (HXL.out (by simp [badFate, h0]))
        go_wp2_with fail
        go_ret
        exact ⟨by rw [HB.out]; rfl, rfl⟩
      · by_cases h2 : 2 < k
        · have HB : Hid (l.any badFate = true) := Lib.hid (HXL.out (by simp [badFate, h2]))
          go_wp2_with fail
          go_ret
          exact ⟨by rw [HB.out]; rfl, rfl⟩
        · have HG : Hid ((l.take (j + 1)).any badFate = false) := Lib.hid (by rw [HNX.out]; simp [badFate, h0, h2])
          go_wp2_with fail
          exact ⟨⟨j + 1, by omega, by simp, HG⟩, by simp [intOf]; omega⟩
    · obtain rfl : j = n := by omega
      have HF : Hid (l.any badFate = false) := Lib.hid (by
        have h1 := HA.out
        rwa [List.take_of_length_le (by rw [HN.out]; exact Nat.le_refl _)] at h1)
      go_wp2_with fail
      go_ret
      exact ⟨by rw [HF.out]; rfl, rfl⟩
end Go.Proofs.Ytmkjejngnahpeaa
