/- Stats: Count, Merge. -/
import Derived.Test.YtbpnhpjcepgiiaaUe
import Derived.Deep.Cut
namespace Go.Proofs.Ytbpnhpjcepgiiaa
open Go.RowKit Fl

theorem count_any (q : Nat) (t : Ta) (w : World) (h : TaAt w q t) :
    Calls Try.prog 42 #[.pointer (some ⟨q, 0, none⟩)] w fun e w' => e = .returned (.int .i64 t.n) ∧ w = w' := by
  obtain ⟨c0, -, -, -, -, -, -⟩ := h.cells
  clear h
  go_enter Try.func42, Try.ntmps42
  go_wp2_with fail
  go_ret
  exact ⟨rfl, rfl⟩
theorem count_nil (w : World) : Calls Try.prog 42 #[.pointer none] w fun e w' => e = .returned (.int .i64 0) ∧ w = w' := by
  go_enter Try.func42, Try.ntmps42
  go_wp2_with fail
  go_ret
  exact ⟨rfl, rfl⟩
set_option maxRecDepth 100000 in
theorem merge_nil1 (oa : Option Addr) (w : World) : Calls Try.prog 43 #[.pointer none, .pointer oa] w fun e w' => e = .returned (.int .i64 1) ∧ w = w' := by
  go_enter Try.func43, Try.ntmps43
  go_wp2_with fail
  go_ret
  exact ⟨rfl, rfl⟩
set_option maxRecDepth 100000 in
theorem merge_nil2 (q : Nat) (w : World) : Calls Try.prog 43 #[.pointer (some ⟨q, 0, none⟩), .pointer none] w fun e w' => e = .returned (.int .i64 1) ∧ w = w' := by
  go_enter Try.func43, Try.ntmps43
  go_wp2_with fail
  go_ret
  exact ⟨rfl, rfl⟩
/-- an empty one is merged: nothing is done -/
theorem merge_none (q q2 : Nat) (o : Ta) (w : World) (h2 : TaAt w q2 o) (ho : o.n = 0) :
    Calls Try.prog 43 #[.pointer (some ⟨q, 0, none⟩), .pointer (some ⟨q2, 0, none⟩)] w fun e w' => e = .returned (.int .i64 0) ∧ w = w' := by
  obtain ⟨c0, -, -, -, -, -, -⟩ := h2.cells
  rw [ho] at c0
  clear h2
  go_enter Try.func43, Try.ntmps43
  go_wp2_with fail
  go_ret
  exact ⟨rfl, rfl⟩
/-- into an empty one: it is as the other -/
theorem merge_first (q q2 : Nat) (t o : Ta) (w : World) (h : TaAt w q t) (h2 : TaAt w q2 o) (ht : t.n = 0) (ho : o.n ≠ 0) :
    Calls Try.prog 43 #[.pointer (some ⟨q, 0, none⟩), .pointer (some ⟨q2, 0, none⟩)] w fun e w' => e = .returned (.int .i64 0) ∧ TaAt w' q o ∧ w.grownBy w' (some q) := by
  obtain ⟨c0, c1, c2, c3, c4, c5, -⟩ := h2.cells
  obtain ⟨d0, d1, d2, d3, d4, d5, hfr⟩ := h.cells
  rw [ht] at d0
  obtain ⟨n, hn⟩ : ∃ n, n = o.n := ⟨_, rfl⟩
  rw [← hn] at c0 ho
  have hz : (n == 0) = false := by simp [ho]
  have hsf := run_store_float
  have H := Lib.hid h
  have HN := Lib.hid hn
  clear h h2 ho hn
  go_enter Try.func43, Try.ntmps43
  go_wp2_with fail
  go_ret
  refine ⟨rfl, ?_, ?_⟩
  · have := (((((H.out.set0 n).set1 o.sum).set2 o.mean).set3 o.m).set4 o.least).set5 o.greatest
    rw [HN.out] at this ⊢
    exact this
  · exact grown_trans (grown_setCell _ _ _ _) (grown_trans (grown_setCell _ _ _ _) (grown_trans (grown_setCell _ _ _ _) (grown_trans (grown_setCell _ _ _ _) (grown_trans (grown_setCell _ _ _ _) (grown_setCell _ _ _ _)))))
end Go.Proofs.Ytbpnhpjcepgiiaa
