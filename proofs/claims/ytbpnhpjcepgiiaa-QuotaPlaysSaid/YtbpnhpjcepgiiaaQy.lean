/- QuotaPlays: the calls that are refused: of a client that may not be, of what may not be, of nil and zero quotas. -/
import Derived.Test.YtbpnhpjcepgiiaaQx
namespace Go.Proofs.Ytbpnhpjcepgiiaa
open Go.RowKit Fl

/-- there is no such bucket: the number that is told -/
def OfNone (w : World) (q : Value) (c : Int) (ok : Bool) (code : Int) : Prop :=
  ∀ wx, Below w.heap.size w wx → Calls Try.prog 56 #[q, .int .i64 c, .bool ok] wx fun e w' => e = .returned (.tuple #[.pointer none, .int .i64 code]) ∧ wx = w'

theorem of_nil (c : Int) (ok : Bool) (w : World) : OfNone w (.pointer none) c ok 1 := by
  intro wx _
  go_enter Try.func56, Try.ntmps56
  go_wp2
  go_ret2
  exact ⟨rfl, rfl⟩
theorem of_bad_none (q : Nat) (c : Int) (ok : Bool) (bs : List Bk) (w : World) (h : HasQ w q bs) (hc : c < 0 ∨ 64 ≤ c ∨ ok = false) : OfNone w (.pointer (some ⟨q, 0, none⟩)) c ok 2 :=
  fun wx hb => of_bad q c ok wx hc (h.below hb).made
theorem of_unmade (q : Nat) (c : Int) (ok : Bool) (w : World) (hm : w.cell? ⟨q, 384, none⟩ = some (.bool false)) : OfNone w (.pointer (some ⟨q, 0, none⟩)) c ok 1 := by
  intro wx hb
  have hm2 : wx.cell? ⟨q, 384, none⟩ = some (.bool false) := by rw [hb.cell (World.block_lt_of_cell? w _ hm)]; exact hm
  clear hb hm
  go_enter Try.func56, Try.ntmps56
  go_wp2
  go_ret2
  exact ⟨rfl, rfl⟩

section
variable {w : World} {q : Value} {c code : Int}

set_option maxHeartbeats 400000 in
theorem level_none (t : Int) (h : OfNone w q c (timeB t) code) (hc : (code == 0) = false) :
    Calls Try.prog 20 #[q, .int .i64 c, .int .i64 t] w fun e w' => e = .returned (.tuple #[.float .f64 0, .int .i64 code]) ∧ w = w' := by
  have H := Lib.hid h
  clear h
  go_enter Try.func20, Try.ntmps20
  go_wp2_with fail
  refine (clock_any t _).mono ?_
  rintro e w' ⟨rfl, rfl⟩
  go_wp2_with fail
  refine (H.out _ (Below.refl _ _)).mono ?_
  rintro e w' ⟨rfl, rfl⟩
  go_wp2_with fail
  try rw [Exit.noGoto_ret]
  go_ret2
  exact ⟨rfl, rfl⟩

set_option maxHeartbeats 400000 in
theorem reset_none (t : Int) (h : OfNone w q c (timeB t) code) (hc : (code == 0) = false) :
    Calls Try.prog 24 #[q, .int .i64 c, .int .i64 t] w fun e w' => e = .returned (.int .i64 code) ∧ w = w' := by
  have H := Lib.hid h
  clear h
  go_enter Try.func24, Try.ntmps24
  go_wp2_with fail
  refine (clock_any t _).mono ?_
  rintro e w' ⟨rfl, rfl⟩
  go_wp2_with fail
  refine (H.out _ (Below.refl _ _)).mono ?_
  rintro e w' ⟨rfl, rfl⟩
  go_wp2_with fail
  try rw [Exit.noGoto_ret]
  go_ret
  exact ⟨rfl, rfl⟩

set_option maxHeartbeats 400000 in
theorem paid_none (h : OfNone w q c true code) (hc : (code == 0) = false) :
    Calls Try.prog 21 #[q, .int .i64 c] w fun e w' => e = .returned (.tuple #[.float .f64 0, .int .i64 0, .int .i64 code]) ∧ w = w' := by
  have H := Lib.hid h
  clear h
  go_enter Try.func21, Try.ntmps21
  go_wp2_with fail
  refine (H.out _ (Below.refl _ _)).mono ?_
  rintro e w' ⟨rfl, rfl⟩
  go_wp2_with fail
  try rw [Exit.noGoto_ret]
  go_ret3
  exact ⟨rfl, rfl⟩

set_option maxHeartbeats 400000 in
theorem of_none (h : OfNone w q c true code) (hc : (code == 0) = false) :
    Calls Try.prog 62 #[q, .int .i64 c] w fun e w' => e = .returned (.tuple #[.agg #[.float .f64 0, .float .f64 0], .int .i64 code]) ∧ Below w.heap.size w w' := by
  have H := Lib.hid h
  clear h
  have hsf := run_store_float
  go_enter Try.func62, Try.ntmps62
  go_wp2_with fail
  refine (H.out _ ((Below.refl _ _).alloc (Nat.le_refl _) _)).mono ?_
  rintro e w' ⟨rfl, rfl⟩
  go_wp2_with fail
  refine bodyPost_ret (v := .tuple #[.agg #[.float .f64 0, .float .f64 0], .int .i64 code]) (by simp [results, Try.results62, go_sem]) rfl ⟨rfl, (Below.refl _ _).alloc (Nat.le_refl _) _⟩

set_option maxHeartbeats 400000 in
theorem back_none (x : Nat) (hx : x < 18446744073709551616) (h : OfNone w q c (nnW x) code) (hc : (code == 0) = false) :
    Calls Try.prog 23 #[q, .int .i64 c, .float .f64 x] w fun e w' => e = .returned (.int .i64 code) ∧ w = w' := by
  have H := Lib.hid h
  clear h
  have HX := Lib.hid hx
  clear hx
  go_enter Try.func23, Try.ntmps23
  go_wp2_with fail
  refine (price_any x _ HX.out).mono ?_
  rintro e w' ⟨rfl, rfl⟩
  go_wp2_with fail
  refine (H.out _ (Below.refl _ _)).mono ?_
  rintro e w' ⟨rfl, rfl⟩
  go_wp2_with fail
  try rw [Exit.noGoto_ret]
  go_ret
  exact ⟨rfl, rfl⟩

set_option maxHeartbeats 400000 in
theorem pay_none (x : Nat) (t : Int) (hx : x < 18446744073709551616) (h : OfNone w q c (nnW x && timeB t) code) (hc : (code == 0) = false) :
    Calls Try.prog 19 #[q, .int .i64 c, .float .f64 x, .int .i64 t] w fun e w' => e = .returned (.int .i64 code) ∧ w = w' := by
  have H := Lib.hid h
  clear h
  have HX := Lib.hid hx
  clear hx
  cases hn : nnW x
  all_goals (rw [hn] at H; have HN := Lib.hid hn; clear hn)
  all_goals go_enter Try.func19, Try.ntmps19
  · go_wp2_with fail
    refine (price_any x _ HX.out).mono ?_
    rintro e w' ⟨rfl, rfl⟩
    rw [HN.out]
    go_wp2_with fail
    refine (H.out _ (Below.refl _ _)).mono ?_
    rintro e w' ⟨rfl, rfl⟩
    go_wp2_with fail
    try rw [Exit.noGoto_ret]
    go_ret
    exact ⟨rfl, rfl⟩
  · go_wp2_with fail
    refine (price_any x _ HX.out).mono ?_
    rintro e w' ⟨rfl, rfl⟩
    rw [HN.out]
    go_wp2_with fail
    refine (clock_any t _).mono ?_
    rintro e w' ⟨rfl, rfl⟩
    go_wp2_with fail
    refine (H.out _ (Below.refl _ _)).mono ?_
    rintro e w' ⟨rfl, rfl⟩
    go_wp2_with fail
    try rw [Exit.noGoto_ret]
    go_ret
    exact ⟨rfl, rfl⟩

set_option maxHeartbeats 400000 in
theorem when_none (x : Nat) (t : Int) (hx : x < 18446744073709551616) (h : OfNone w q c (nnW x && timeB t) code) (hc : (code == 0) = false) :
    Calls Try.prog 17 #[q, .int .i64 c, .float .f64 x, .int .i64 t] w fun e w' => e = .returned (.tuple #[.int .i64 0, .int .i64 code]) ∧ w = w' := by
  have H := Lib.hid h
  clear h
  have HX := Lib.hid hx
  clear hx
  cases hn : nnW x
  all_goals (rw [hn] at H; have HN := Lib.hid hn; clear hn)
  all_goals go_enter Try.func17, Try.ntmps17
  · go_wp2_with fail
    go_step3
    go_wp2_with fail
    refine (price_any x _ HX.out).mono ?_
    rintro e w' ⟨rfl, rfl⟩
    rw [HN.out]
    go_wp2_with fail
    refine (H.out _ (Below.refl _ _)).mono ?_
    rintro e w' ⟨rfl, rfl⟩
    go_wp2_with fail
    try rw [Exit.noGoto_ret]
    go_ret2
    exact ⟨rfl, rfl⟩
  · go_wp2_with fail
    go_step3
    go_wp2_with fail
    refine (price_any x _ HX.out).mono ?_
    rintro e w' ⟨rfl, rfl⟩
    rw [HN.out]
    go_wp2_with fail
    refine (clock_any t _).mono ?_
    rintro e w' ⟨rfl, rfl⟩
    go_wp2_with fail
    refine (H.out _ (Below.refl _ _)).mono ?_
    rintro e w' ⟨rfl, rfl⟩
    go_wp2_with fail
    try rw [Exit.noGoto_ret]
    go_ret2
    exact ⟨rfl, rfl⟩

set_option maxHeartbeats 400000 in
theorem set_none (r u : Nat) (hr : r < 18446744073709551616) (hu : u < 18446744073709551616) (h : OfNone w q c (quotaB r u) code) (hc : (code == 0) = false) :
    Calls Try.prog 63 #[q, .int .i64 c, .agg #[.float .f64 r, .float .f64 u]] w fun e w' => e = .returned (.int .i64 code) ∧ Below w.heap.size w w' := by
  have H := Lib.hid h
  have HR := Lib.hid hr
  have HU := Lib.hid hu
  have HE : Hid ((errB (quotaB r u) == 0) = quotaB r u) := Lib.hid (by cases quotaB r u <;> rfl)
  clear h hr hu
  go_enter Try.func63, Try.ntmps63
  go_wp2_with fail
  refine (check_any r u _ HR.out HU.out).mono ?_
  rintro e w1 ⟨rfl, hb1⟩
  have W1 : Hid (Below w.heap.size w w1) := Lib.hid (((Below.refl _ _).alloc (Nat.le_refl _) _).trans (hb1.mono (by simp)))
  clear hb1
  go_wp2_with fail
  rw [HE.out]
  refine (H.out _ W1.out).mono ?_
  rintro e w' ⟨rfl, rfl⟩
  go_wp2_with fail
  go_ret
  exact ⟨rfl, W1.out⟩
end
end Go.Proofs.Ytbpnhpjcepgiiaa
