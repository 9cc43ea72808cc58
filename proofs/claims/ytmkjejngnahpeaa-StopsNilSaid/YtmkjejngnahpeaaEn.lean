/- Disk: Steps. -/
import Derived.Test.YtmkjejngnahpeaaEm
namespace Go.Proofs.Ytmkjejngnahpeaa
open Go Go.Maps Go.RowKit

set_option maxHeartbeats 400000 in
theorem steps_b {w : World} {S : Nat → Prop} {q : Nat} {d : Dk} (h : DiskAt w S q d) :
    Calls Try.prog 44 #[.pointer (some ⟨q, 0, none⟩)] w fun e w' => e = .returned (.tuple #[.int .i64 d.steps, .int .i64 d.fates.length]) ∧ Below w.heap.size w w' := by
  obtain ⟨mb, fv, L, h⟩ := h
  obtain ⟨oa, cap, rfl, _⟩ := h.fates.shape
  obtain ⟨st, hst⟩ : ∃ st, d.steps = st := ⟨_, rfl⟩
  obtain ⟨n, hn⟩ : ∃ n, d.fates.length = n := ⟨_, rfl⟩
  have hh := h.head
  rw [hst, hn] at hh
  have c1 : w.cell? ⟨q, 1, none⟩ = some (.slice oa n cap) := cell_of hh rfl
  have c2 : w.cell? ⟨q, 2, none⟩ = some (.int .i64 st) := cell_of hh rfl
  rw [hst, hn]
  have H := Lib.hid h
  clear h hh hst hn
  go_enter Try.func44, Try.ntmps44
  go_wp2_with fail
  refine (none_b H.out).mono ?_
  rintro e w' ⟨rfl, rfl⟩
  go_upto_region 3 with fail
  go_region
  go_wp2_with fail
  go_ret2
  exact ⟨rfl, ⟨rfl, rfl, rfl, Nat.le_refl _, fun _ _ => rfl⟩⟩
end Go.Proofs.Ytmkjejngnahpeaa
