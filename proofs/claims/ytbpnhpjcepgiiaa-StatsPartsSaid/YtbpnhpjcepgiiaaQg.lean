/- Quota: Paid, Back, Reset, Copy. -/
import Derived.Test.YtbpnhpjcepgiiaaQf
import Derived.Test.YtbpnhpjcepgiiaaKitb
namespace Go.Proofs.Ytbpnhpjcepgiiaa
open Go.RowKit Fl

theorem paid_ok (q c : Nat) (bs : List Bk) (w : World) (h : HasQ w q bs) (hc : c < bs.length) :
    Calls Try.prog 21 #[.pointer (some ⟨q, 0, none⟩), .int .i64 c] w fun e w' => e = .returned (.tuple #[.float .f64 (bs[c]'hc).paid, .int .i64 (bs[c]'hc).times, .int .i64 0]) ∧ ∃ n, w' = w.drewN n := by
  have hb := h.bk c hc
  have h4 := hb.paid
  have h5 := hb.times
  have H := Lib.hid h
  have HC := Lib.hid hc
  obtain ⟨p, hp⟩ : ∃ p, (bs[c]'hc).paid = p := ⟨_, rfl⟩
  obtain ⟨n, hn⟩ : ∃ n, (bs[c]'hc).times = n := ⟨_, rfl⟩
  rw [hp] at h4 ⊢
  rw [hn] at h5 ⊢
  clear h hb hp hn
  go_enter Try.func21, Try.ntmps21
  go_wp2_with fail
  refine (of_ok q c _ (by have := H.out.1; have := HC.out; omega) H.out.made).mono ?_
  rintro e w' ⟨rfl, rfl⟩
  go_wp2_with fail
  go_quiet (fail)
  go_wp2_with fail
  go_ret3
  exact ⟨rfl, _, rfl⟩

theorem encQ_size (bs : List Bk) (h : bs.length = 64) : (encQ bs).size = 385 := by
  have := flat_length bs
  rw [h] at this
  simp [encQ, this]
theorem encQ_one (bs : List Bk) : ∀ u ∈ (encQ bs).toList, u.oneCell' = true := by
  intro u hu
  simp only [encQ, List.mem_append, List.mem_singleton] at hu
  rcases hu with hu | rfl
  · obtain ⟨b, _, hb⟩ := List.mem_flatMap.1 hu
    simp only [Bk.vals, List.mem_cons, List.not_mem_nil, or_false] at hb
    rcases hb with rfl | rfl | rfl | rfl | rfl | rfl <;> rfl
  · rfl

def zeroBk : Bk := ⟨0, 0, 0, 0, 0, 0⟩
def zeroQ : Array Value := ((List.replicate 64 zeroBk).flatMap Bk.vals ++ [Value.bool false]).toArray
theorem info_q : (Try.prog.info? 70).map (fun i => i.zero.map Value.cells) = some (some zeroQ) := by kernel_rfl
theorem size_q : (Try.prog.info? 70).map (·.size) = some 385 := by kernel_rfl

set_option maxRecDepth 100000 in
theorem copy_ok (q : Nat) (bs : List Bk) (w : World) (h : HasQ w q bs) :
    Calls Try.prog 18 #[.pointer (some ⟨q, 0, none⟩)] w fun e w' => e = .returned (.pointer (some ⟨w.heap.size, 0, none⟩)) ∧ w' = w.alloc (.cells (encQ bs) 70) := by
  have hm := h.made
  have hsz := encQ_size bs h.1
  have H := Lib.hid h
  have HS := Lib.hid hsz
  clear h hsz
  go_enter Try.func18, Try.ntmps18
  go_wp2_with (first | (refine wpList_load_row rfl 70 (.tmp 14) rfl q rfl _ (encQ bs) (0, 0) _ H.out.2 Try.underlying70 rfl (by rw [HS.out]; exact size_q) ?_) | (refine wpList_alloc_row _ rfl 70 rfl zeroQ info_q ?_) | (refine wpList_store_row _ rfl 70 (.tmp 3) (.tmp 15) rfl w.heap.size 0 rfl (.agg (encQ bs)) rfl 70 zeroQ (0, 0) (heap_alloc_new _ _) (freeRow_zero _) ?_ ?_ ?_ ?_))
  · exact size_q.trans (by rw [← HS.out]; rfl)
  · rw [show (Value.agg (encQ bs)).cells = encQ bs from rfl, HS.out]; decide +kernel
  · exact encQ_one bs
  · have e : ((encQ bs).toList ++ zeroQ.toList.drop (encQ bs).size).toArray = encQ bs := by
      rw [HS.out, List.drop_of_length_le (by decide +kernel)]
      simp
    go_wp2_with fail
    go_ret
    rw [e, setRow_alloc_new]
    exact ⟨rfl, rfl⟩
end Go.Proofs.Ytbpnhpjcepgiiaa
