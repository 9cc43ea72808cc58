/- QuotaPlays: New that is refused; the document's New; rows of what is asked. -/
import Derived.Test.YtbpnhpjcepgiiaaPb
import Derived.Deep.LoopGhost
import Derived.Deep.CutRange
import Derived.OwnWalk
namespace Go.Proofs.Ytbpnhpjcepgiiaa
open Go.RowKit Fl

set_option maxHeartbeats 400000 in
theorem new_no (r b : Nat) (t : Int) (w : World) (hq : (quotaB r b && timeB t) = false) (hr : r < 18446744073709551616) (hb : b < 18446744073709551616) :
    Calls Try.prog 12 #[.agg #[.float .f64 r, .float .f64 b], .int .i64 t] w fun e w' => e = .returned (.tuple #[.pointer none, .int .i64 2]) ∧ Below w.heap.size w w' := by
  have HR := Lib.hid hr
  have HBB := Lib.hid hb
  cases hqb : quotaB r b with
  | false =>
    have HQ := Lib.hid hqb
    clear hq hr hb hqb
    go_enter Try.func12, Try.ntmps12
    go_wp2_with fail
    refine (check_any r b _ HR.out HBB.out).mono ?_
    rintro e w1 ⟨rfl, hb1⟩
    rw [HQ.out, show errB false = 2 from rfl]
    go_wp2_with fail
    go_ret2
    exact ⟨rfl, ((Below.refl _ _).alloc (Nat.le_refl _) _).trans (hb1.mono (by simp))⟩
  | true =>
    rw [hqb, Bool.true_and] at hq
    have HQ := Lib.hid hqb
    have HT := Lib.hid hq
    clear hq hr hb hqb
    go_enter Try.func12, Try.ntmps12
    go_wp2_with fail
    refine (check_any r b _ HR.out HBB.out).mono ?_
    rintro e w1 ⟨rfl, hb1⟩
    rw [HQ.out, show errB true = 0 from rfl]
    go_wp2_with fail
    refine (clock_any t _).mono ?_
    rintro e w' ⟨rfl, rfl⟩
    rw [HT.out]
    go_wp2_with fail
    go_ret2
    exact ⟨rfl, ((Below.refl _ _).alloc (Nat.le_refl _) _).trans (hb1.mono (by simp))⟩

/-- a bucket of the document as a value -/
def Bk.val (b : Bk) : Value := .agg #[.float .f64 b.rate, .float .f64 b.burst, .float .f64 b.level, .int .i64 b.time, .float .f64 b.paid, .int .i64 b.times]
set_option maxHeartbeats 400000 in
theorem rnew_b (r b : Nat) (t : Int) (w : World) :
    Calls Try.prog 27 #[.agg #[.float .f64 r, .float .f64 b], .int .i64 t] w fun e w' => e = .returned (newB r b t).val ∧ Below w.heap.size w w' := by
  have hsf := run_store_float
  go_enter Try.func27, Try.ntmps27
  go_wp2_with fail
  exact bodyPost_ret (v := (newB r b t).val) (by simp [results, Try.results27, go_sem, newB, Bk.val]) rfl ⟨rfl, ((Below.refl _ _).alloc (Nat.le_refl _) _).alloc (by simp) _⟩

theorem info_qp : (Try.prog.info? 29).map (fun i => (i.zero, i.size, i.bytes)) = some (some (.pointer none), 1, 8) := by kernel_rfl
theorem info_sb : (Try.prog.info? 54).map (fun i => (i.zero, i.size, i.bytes)) = some (some (.slice none 0 0), 1, 24) := by kernel_rfl
theorem info_bk : (Try.prog.info? 56).map (fun i => (i.zero, i.size, i.bytes)) = some (some zeroBk.val, 6, 48) := by kernel_rfl
theorem made_bks : (madeCells zeroBk.val.cells (64 * 6)).toList = (List.replicate 64 zeroBk).flatMap Bk.vals := by kernel_rfl
/-- a row of 64 that is owned is a row of buckets -/
theorem hasR_of_owns {w : World} {base s : Nat} {T : TypeId} {bs : List Bk} (h : w.ownsRow base T 6 (.slice (some ⟨s, 0, none⟩) 64 64) 64 (bs.flatMap Bk.vals)) (hl : bs.length = 64) : HasR w s T bs := by
  obtain ⟨_, h | ⟨g, cap, cur, hv, _, hg, _, _, hs, ht⟩⟩ := h
  · simp at h
  · simp only [Value.slice.injEq, Option.some.injEq, Addr.mk.injEq] at hv
    obtain ⟨⟨rfl, _⟩, _, rfl⟩ := hv
    refine ⟨hl, ?_⟩
    have : cur.toList = bs.flatMap Bk.vals := by rw [← ht, List.take_of_length_le (by simp [hs])]
    rw [hg, encR, ← this]
theorem HasR.drew {w : World} {s : Nat} {T : TypeId} {bs : List Bk} (h : HasR w s T bs) : HasR w.drew s T bs := ⟨h.1, h.2⟩
set_option maxHeartbeats 800000 in
theorem rnew_step (wr : World) (q k r b : Nat) (T : TypeId) (t : Int) (hlt : k < 64) (h : HasR wr q T (List.replicate k (newB r b t) ++ List.replicate (64 - k) zeroBk)) :
    HasR ((((((wr.setCell ⟨q, k * 6, none⟩ (.float .f64 r)).setCell ⟨q, k * 6 + 1, none⟩ (.float .f64 b)).setCell ⟨q, k * 6 + 2, none⟩ (.float .f64 b)).setCell ⟨q, k * 6 + 3, none⟩ (.int .i64 t)).setCell ⟨q, k * 6 + 4, none⟩ (.float .f64 0)).setCell ⟨q, k * 6 + 5, none⟩ (.int .i64 0)) q T
      (List.replicate (k + 1) (newB r b t) ++ List.replicate (64 - (k + 1)) zeroBk) := by
  have hkl : k < (List.replicate k (newB r b t) ++ List.replicate (64 - k) zeroBk).length := by simp; omega
  have hel : (List.replicate k (newB r b t) ++ List.replicate (64 - k) zeroBk)[k]'hkl = zeroBk := by
    rw [List.getElem_append_right (by simp)]
    simp
  have s0 : HasR (wr.setCell ⟨q, k * 6, none⟩ (.float .f64 r)) q T _ := h.store k 0 (.float .f64 r) ⟨r, 0, 0, 0, 0, 0⟩ hkl (by omega) (by rw [hel]; rfl)
  have s1 := s0.store k 1 (.float .f64 b) ⟨r, b, 0, 0, 0, 0⟩ (by simp only [List.length_set]; exact hkl) (by omega) (by rw [List.getElem_set_self]; rfl)
  have s2 := s1.store k 2 (.float .f64 b) ⟨r, b, b, 0, 0, 0⟩ (by simp only [List.length_set]; exact hkl) (by omega) (by rw [List.getElem_set_self]; rfl)
  have s3 := s2.store k 3 (.int .i64 t) ⟨r, b, b, t, 0, 0⟩ (by simp only [List.length_set]; exact hkl) (by omega) (by rw [List.getElem_set_self]; rfl)
  have s4 := s3.store k 4 (.float .f64 0) ⟨r, b, b, t, 0, 0⟩ (by simp only [List.length_set]; exact hkl) (by omega) (by rw [List.getElem_set_self]; rfl)
  have s5 := s4.store k 5 (.int .i64 0) (newB r b t) (by simp only [List.length_set]; exact hkl) (by omega) (by rw [List.getElem_set_self]; rfl)
  simp only [List.set_set] at s5
  rw [repl_set k _ _ hlt] at s5
  exact s5
end Go.Proofs.Ytbpnhpjcepgiiaa
