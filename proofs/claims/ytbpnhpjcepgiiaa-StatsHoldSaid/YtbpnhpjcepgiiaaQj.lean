/- Quota: works. -/
import Derived.Test.YtbpnhpjcepgiiaaQi
namespace Go.Proofs.Ytbpnhpjcepgiiaa
open Go.RowKit Fl

theorem new_b (r b : Nat) (t : Int) (w : World) (hq : quotaB r b = true) (hr : r < 18446744073709551616) (hb : b < 18446744073709551616) (ht0 : 0 ≤ t) (ht : t ≤ 9007199254740992) :
    Calls Try.prog 12 #[.agg #[.float .f64 r, .float .f64 b], .int .i64 t] w fun e w' => ∃ q, w.heap.size ≤ q ∧ e = .returned (.tuple #[.pointer (some ⟨q, 0, none⟩), .int .i64 0]) ∧
      HasQ w' q (List.replicate 64 (newB r b t)) ∧ Below w.heap.size w w' := new_ok r b t w hq hr hb ht0 ht

theorem when_one (q : Nat) (bs : List Bk) (w : World) (h : HasQ w q bs) (hb : bs[0]? = some wb2) :
    Calls Try.prog 17 #[.pointer (some ⟨q, 0, none⟩), .int .i64 (0 : Nat), .float .f64 k4, .int .i64 0] w fun e w' => e = .returned (.tuple #[.int .i64 1, .int .i64 0]) ∧
      HasQ w' q (bs.set 0 wb3) ∧ w.grownBy w' (some q) := by
  refine (when_in_b h hb wb2_ok k4 0 nn_k4 (by decide) (by decide) (by decide) (by rw [rv_k4]; decide +kernel)).mono fun e w' ⟨h1, h2, h3⟩ => ⟨?_, h2, h3⟩
  rcases h1 with ⟨h1, _⟩ | ⟨_, s, hs, he⟩
  · have := wb3_max
    rw [rv_k4] at h1
    exact absurd this (by have h1' : atL wb3 9007199254740992 < k4 := h1; omega)
  · rw [rv_k4] at hs
    rw [wb3_tells s hs] at he
    exact he

theorem ord_k9 : (FloatKind.f64.format.order k9 4621256167635550208 == some .eq) = true := by decide +kernel

set_option maxRecDepth 100000 in
set_option maxHeartbeats 1000000 in
theorem works_any (w : World) : Calls Try.prog 11 #[] w fun e w' => e = .returned (.bool true) ∧ Below w.heap.size w w' := by
  have h9 := ord_k9
  go_enter Try.func11, Try.ntmps11
  go_wp2_with fail
  refine (new_b k2 k10 0 _ (by decide +kernel) (by decide) (by decide) (by decide) (by decide)).mono ?_
  rintro e w1 ⟨q, hq0, rfl, hq1, hb1⟩
  have B1 := Lib.hid hb1
  clear hb1
  go_wp2_with fail
  refine (num_any 0 _).mono ?_
  rintro e w' ⟨rfl, rfl⟩
  go_wp2_with fail
  have s1 := (hq1.lt)
  refine (pay_ok_b (c := 0) hq1 (repl_get 0 _ (by decide)) wb0_ok k7 0 nn_k7 (by decide) (by decide) (by decide) (by rw [rv_k7]; decide +kernel) (by rw [rv_k7]; decide +kernel) (by decide) (by decide)).mono ?_
  rintro e w2 ⟨rfl, hq2, hg2⟩
  have B2 := Lib.hid (below_grown B1.out hg2 hq0 (by have := B1.out.size; omega))
  have G2 := Lib.hid hg2
  clear hg2
  go_wp2_with fail
  refine (pay_later_b (c := 0) hq2 (set_get _ 0 _ (by simp) (by decide)) wb1_ok k4 0 nn_k4 (by decide) (by decide) (by decide) (by rw [rv_k4]; decide +kernel) (by rw [rv_k4]; exact wb1_lvl0)).mono ?_
  rintro e w3 ⟨rfl, hq3, hg3⟩
  have B3 := Lib.hid (below_grown B2.out hg3 hq0 (by have := B2.out.size; omega))
  clear hg3
  go_wp2_with fail
  refine (when_one q _ _ hq3 (set_get _ 0 _ (by simp) (by decide))).mono ?_
  rintro e w4 ⟨rfl, hq4, hg4⟩
  have B4 := Lib.hid (below_grown B3.out hg4 hq0 (by have := B3.out.size; omega))
  clear hg4
  go_wp2_with fail
  refine (level_b (c := 0) hq4 (set_get _ 0 _ (by simp) (by decide)) wb3_ok 3 (by decide) (by decide)).mono ?_
  rintro e w5 ⟨rfl, hq5, hg5⟩
  have B5 := Lib.hid (below_grown B4.out hg5 hq0 (by have := B4.out.size; omega))
  clear hg5
  rw [wb3_lvl3]
  go_wp2_with fail
  refine (num_any 0 _).mono ?_
  rintro e w' ⟨rfl, rfl⟩
  go_wp2_with fail
  refine (num_any 371 _).mono ?_
  rintro e w' ⟨rfl, rfl⟩
  go_wp2_with fail
  refine (num_any 0 _).mono ?_
  rintro e w' ⟨rfl, rfl⟩
  go_wp2_with fail
  refine (num_any 0 _).mono ?_
  rintro e w' ⟨rfl, rfl⟩
  go_wp2_with fail
  go_ret
  exact ⟨rfl, B5.out⟩
end Go.Proofs.Ytbpnhpjcepgiiaa
