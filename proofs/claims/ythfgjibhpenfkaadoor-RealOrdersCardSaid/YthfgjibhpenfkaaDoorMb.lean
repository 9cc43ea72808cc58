/- Real: a float's key put behind other bytes. -/
import Derived.Test.YthfgjibhpenfkaaDoorMa
import Derived.Test.YthfgjibhpenfkaaDoorKit
import Derived.Test.YthfgjibhpenfkaaDoorKite
import Derived.Deep.RegionLaw
import Derived.Test.YthfgjibhpenfkaaDoorLv
import Derived.OwnWalk
namespace Go.Proofs.YthfgjibhpenfkaaDoor
open Go.RowKit Fl

theorem info_u8 : (Tryd.prog.info? 5).map (fun i => (i.zero, i.size, i.bytes)) = some (some (.int .u8 0), 1, 1) := by kernel_rfl
theorem emptyRowU (w : World) (T : TypeId) (size : Nat) : hasRow (w.alloc (.cells #[] T)) w.heap.size T size (.slice (some ⟨w.heap.size, 0, none⟩) 0 0) 0 [] :=
  ⟨by simp, .inr ⟨_, 0, #[], (0, 0), rfl, Nat.le_refl _, heap_alloc_new _ _, Nat.le_refl _, Nat.zero_le _, by simp, fun j hj => by simp at hj, by simp⟩⟩
theorem below_undrew {w w' : World} (h : Below w.drew.heap.size w.drew w') : Below w.heap.size w w' := ⟨h.os, h.tape, h.output, h.size, h.block⟩
theorem byteCells_len (l : List UInt8) : (byteCells l).length = l.length := by simp [byteCells]
set_option maxRecDepth 100000 in
set_option maxHeartbeats 400000 in
/-- a copy of bytes, in memory of its own -/
theorem clone_u (ad : Addr) (n c : Nat) (l : List UInt8) (w : World) (hl : l.length = n) (h : ∀ (j : Nat) (v : Value), (byteCells l)[j]? = some v → w.cell? (ad.add j) = some v) (hm : n ≤ 1000000) :
    Calls Tryd.prog 50 #[.slice (some ad) n c] w fun e w' => ∃ v, e = .returned v ∧ hasRow w' w.heap.size 5 1 v n (byteCells l) ∧ Below w.heap.size w w' := by
  have hnil : ∀ W : World, Sem.run Tryd.prog (binOp .eql 34 (.slice (some ad) n c) (.slice none 0 0)) W = .ok (.bool false) W := fun W => by kernel_rfl
  have H := Lib.hid h
  clear h
  go_enter Tryd.func50, Tryd.ntmps50
  go_wp2_with (at_builtin; refine wpList_append_row _ rfl (.tmp 5) (.tmp 6) 34 34 rfl w.heap.size 5 (.int .u8 0) 1 1 Tryd.underlying34 info_u8 rfl _ 0 _ rfl (emptyRowU w _ _) _ n (byteCells l) rfl (Src.slice Tryd.underlying34 ad n c _ (by rw [byteCells_len]; omega) (fun j v hv => by rw [(Below.refl w.heap.size w |>.alloc (Nat.le_refl _) _).cell (World.block_lt_of_cell? w _ (H.out j v hv))]; exact H.out j v hv) (byteCells_one l)) ?_ ?_ ?_ ?_)
  · unfold maxLen; omega
  · omega
  · simp
  · intro vv w5 hr5 hg5 _
    have hb5 : Below w.heap.size w w5 := ((Below.refl _ _).alloc (Nat.le_refl _) _).grown hg5 (by simp) (fun k hk => by simp [Value.ownBlock] at hk; omega)
    have HR := Lib.hid hr5
    have HB := Lib.hid hb5
    obtain ⟨vs, hvs⟩ : ∃ vs, vs = vv := ⟨_, rfl⟩
    clear hr5 hg5 hb5
    go_wp2_with fail
    go_ret
    exact ⟨_, rfl, HR.out, HB.out⟩
/-- the key's bytes -/
def keyL (P : Nat) : List UInt8 := [UInt8.ofNat (kB P 0), UInt8.ofNat (kB P 1), UInt8.ofNat (kB P 2), UInt8.ofNat (kB P 3), UInt8.ofNat (kB P 4), UInt8.ofNat (kB P 5), UInt8.ofNat (kB P 6), UInt8.ofNat (kB P 7)]
theorem kV_byte (P j : Nat) : kV P j = .int .u8 ((UInt8.ofNat (kB P j)).toNat : Int) := by
  have : kB P j < 256 := Nat.mod_lt _ (by decide)
  unfold kV
  rw [UInt8.toNat_ofNat_of_lt' (by exact this)]
theorem kAgg_bytes (P : Nat) : byteCells (keyL P) = [kV P 0, kV P 1, kV P 2, kV P 3, kV P 4, kV P 5, kV P 6, kV P 7] := by
  simp only [kV_byte]
  rfl
set_option maxRecDepth 100000 in
set_option maxHeartbeats 1000000 in
theorem appendkey_b (ad : Addr) (n c x : Nat) (l : List UInt8) (w : World) (hl : l.length = n) (h : ∀ (j : Nat) (v : Value), (byteCells l)[j]? = some v → w.cell? (ad.add j) = some v) (hm : n ≤ 1000) (hx : x < 18446744073709551616) :
    Calls Tryd.prog 24 #[.slice (some ad) n c, .float .f64 x] w fun e w' => ∃ v, e = .returned v ∧ hasRow w' w.heap.size 5 1 v (n + 8) (byteCells (l ++ keyL (placeN x))) ∧ Below w.heap.size w w' := by
  have HX := Lib.hid hx
  have H := Lib.hid h
  clear h hx
  go_enter Tryd.func24, Tryd.ntmps24
  go_wp2_with fail
  refine (key_any x _ HX.out).mono ?_
  rintro e w1 ⟨rfl, hb1⟩
  obtain ⟨a0, a1, a2, a3, a4, a5, a6, a7, hag, hbc⟩ : ∃ a0 a1 a2 a3 a4 a5 a6 a7 : Int, kAgg (placeN x) = .agg #[.int .u8 a0, .int .u8 a1, .int .u8 a2, .int .u8 a3, .int .u8 a4, .int .u8 a5, .int .u8 a6, .int .u8 a7] ∧ byteCells (keyL (placeN x)) = [.int .u8 a0, .int .u8 a1, .int .u8 a2, .int .u8 a3, .int .u8 a4, .int .u8 a5, .int .u8 a6, .int .u8 a7] :=
    ⟨_, _, _, _, _, _, _, _, rfl, kAgg_bytes _⟩
  rw [hag]
  have HBC := Lib.hid hbc
  clear hag hbc
  go_wp2_with fail
  obtain ⟨w2, hw2⟩ : ∃ w2 : World, w2 = w1.alloc (.cells #[.int .u8 a0, .int .u8 a1, .int .u8 a2, .int .u8 a3, .int .u8 a4, .int .u8 a5, .int .u8 a6, .int .u8 a7] 31) := ⟨_, rfl⟩
  have hb2 : Below w.heap.size w w2 := by rw [hw2]; exact hb1.alloc hb1.size _
  have hk2 : w2.heap[w1.heap.size]? = some (.cells #[.int .u8 a0, .int .u8 a1, .int .u8 a2, .int .u8 a3, .int .u8 a4, .int .u8 a5, .int .u8 a6, .int .u8 a7] 31 (0, 0)) := by rw [hw2]; exact alloc_here _ _
  have hz2 : w1.heap.size < w2.heap.size := by rw [hw2]; simp
  have hz1 := hb1.size
  rw [← hw2]
  clear hw2 hb1
  have hsrc : ∀ (j : Nat) (v : Value), (byteCells l)[j]? = some v → w2.drew.cell? (ad.add j) = some v := fun j v hv => (hb2.cell (p := ad.add j) (World.block_lt_of_cell? w _ (H.out j v hv))).trans (H.out j v hv)
  have HSRC := Lib.hid hsrc
  clear hsrc
  have hkey : ∀ w3 : World, Below w2.drew.heap.size w2.drew w3 → ∀ (j : Nat) (v : Value), (byteCells (keyL (placeN x)))[j]? = some v → w3.cell? ((⟨w1.heap.size, 0, none⟩ : Addr).add j) = some v := fun w3 hb j v hv => by
    rw [HBC.out] at hv
    have hq : w3.cell? ⟨w1.heap.size, j, none⟩ = w2.cell? ⟨w1.heap.size, j, none⟩ := hb.cell (p := ⟨w1.heap.size, j, none⟩) hz2
    rw [Go.WideShapes.add_plain, Nat.zero_add, hq]
    simp only [World.cell?, hk2]
    simpa using hv
  have HKEY := Lib.hid hkey
  clear hkey
  have h63 : n + 8 ≤ maxLen := by unfold maxLen; omega
  have hby : (n + 8) * 1 ≤ 140737488355328 := by omega
  have H63 := Lib.hid h63
  have HBY := Lib.hid hby
  clear h63 hby
  go_region_law (first | (go_simp; go_at_call 50; refine (clone_u ad n c l _ hl HSRC.out (by omega)).mono ?_; rintro e w3 ⟨vc, rfl, hrc, hbc⟩; have HRC := Lib.hid hrc; have HBB := Lib.hid hbc; clear hrc hbc) | (refine step_append_row _ (by rfl) (.tmp 9) (.tmp 10) 34 34 (by rfl) w2.heap.size 5 (.int .u8 0) 1 1 Tryd.underlying34 info_u8 rfl _ n _ (by rfl) HRC.out _ 8 _ (by rfl) (Src.slice Tryd.underlying34 ⟨w1.heap.size, 0, none⟩ 8 8 (byteCells (keyL (placeN x))) (by rfl) (HKEY.out _ HBB.out) (byteCells_one _)) H63.out HBY.out HBB.out.size ?_; intro vv w4 hr4 hg4 _; have HR4 := Lib.hid hr4; have HG4 := Lib.hid hg4; clear hr4 hg4))
  go_wp2_with fail
  refine bodyPost_ret (v := vv) (by simp [results, Tryd.results24, go_sem, Act.put]) rfl ⟨vv, rfl, ?_, ?_⟩
  · have h := HR4.out
    rw [show byteCells (l ++ keyL (placeN x)) = byteCells l ++ byteCells (keyL (placeN x)) by simp [byteCells]]
    exact h.mono hb2.size
  · refine (hb2.trans ((below_undrew HBB.out).mono hb2.size)).grown HG4.out (Nat.le_trans hb2.size HBB.out.size) (fun k hk => ?_)
    exact Nat.le_trans hb2.size (HRC.out.lt k hk).1
end Go.Proofs.YthfgjibhpenfkaaDoor
