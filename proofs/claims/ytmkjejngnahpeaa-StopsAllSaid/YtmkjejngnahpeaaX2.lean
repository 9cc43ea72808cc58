/- The texts La in one. -/
import Derived.Test.YtmkjejngnahpeaaX1
import Derived.BigRegion
import Derived.Deep.RegionHeldLaw
/- law08: high, the walk. -/
namespace Go.Proofs.Ytmkjejngnahpeaa
open Go Go.Maps Go.RowKit
open Go.Proofs (encStr)

/-- a disk of the document's that has these files, wherever they lie -/
def RfLite (w : World) (p : Nat) (l : List F0) : Prop := ∃ rv fv st, w.heap[p]? = some (.cells #[rv, fv, st] 198 (0, 0)) ∧ rowAt w 200 5 rv l.length (rfCells l)
theorem RfLite.below {w w' : World} {p : Nat} {l : List F0} (h : RfLite w p l) (hb : Below w.heap.size w w') : RfLite w' p l := by
  obtain ⟨rv, fv, st, h1, h2⟩ := h
  exact ⟨rv, fv, st, (hb.block p (Array.getElem?_eq_some_iff.1 h1).1).trans h1, h2.kept (fun k hk => hb.block k (h2.lt k hk))⟩
theorem RfAt.lite {w : World} {S : Nat → Prop} {p : Nat} {d : Dk} (h : RfAt w S p d) : RfLite w p d.files := by
  obtain ⟨rv, fv, h⟩ := h
  exact ⟨rv, fv, _, h.head, h.files⟩
theorem RcI.lite {w W : World} {b9 : Nat} {pv ov fv : Value} {s : RcS} (h : RcI w W b9 pv ov fv s) : RfLite W b9 s.fl := ⟨_, _, _, h.box, h.files.row⟩
def hiS (l : List F0) : RcS := ⟨l.map highF, [], []⟩
theorem hiS_succ {l : List F0} {j : Nat} (hj : j < l.length) : hiS (l.take (j + 1)) = rcFile (hiS (l.take j)) l[j] (l[j].bytes.length - l[j].lasts) := by
  unfold hiS rcFile
  rw [List.take_succ_eq_append_getElem hj, List.map_append]
  rfl
set_option maxRecDepth 100000 in
set_option maxHeartbeats 8000000 in
theorem high_b {w : World} {S : Nat → Prop} {p : Nat} {d : Dk} (h : RfAt w S p d) :
    Calls Try.prog 85 #[.pointer (some ⟨p, 0, none⟩)] w fun e w' => ∃ b, e = .returned (.pointer (some ⟨b, 0, none⟩)) ∧ RfLite w' b (d.files.map highF) ∧ Below w.heap.size w w' := by
  obtain ⟨rv, fv, h⟩ := h
  obtain ⟨og, cg, rfl, hnc⟩ := h.files.shape
  obtain ⟨N, hN⟩ : ∃ N, d.files.length = N := ⟨_, rfl⟩
  have hN4 : N ≤ 4096 := by rw [← hN]; exact h.few
  have hrow := h.files
  have hhd := h.head
  rw [hN] at hrow hhd
  have H := Lib.hid (And.intro hhd (And.intro hrow h.sizes))
  have HN := Lib.hid hN
  clear h hrow hhd hN hnc
  go_enter Try.func85, Try.ntmps85
  go_upto_region 2 with fail
  obtain ⟨w2, hw2⟩ : ∃ V : World, V = w.alloc (.cells #[.slice none 0 0, .slice none 0 0, .int .i64 0] 198) := ⟨_, rfl⟩
  obtain ⟨b9, hb9⟩ : ∃ b, b = w.heap.size := ⟨_, rfl⟩
  have hbx : w2.heap[b9]? = some (.cells #[.slice none 0 0, .slice none 0 0, .int .i64 0] 198 (0, 0)) := by rw [hw2, hb9]; exact alloc_cells _ _ _
  have hbl : Below w.heap.size w w2 := by rw [hw2]; exact (Below.refl _ _).alloc (Nat.le_refl _) _
  have hnone : ∀ k, (Value.slice none 0 0).ownBlock = some k → False := fun k hk => by simp [Value.ownBlock] at hk
  have HI0 : Hid (RcI w w2 b9 (.slice none 0 0) (.slice none 0 0) (.slice none 0 0) (hiS [])) := Lib.hid ⟨⟨by simp [natCells, hiS], .inl ⟨rfl, rfl⟩⟩, ⟨by simp [natCells, hiS], .inl ⟨rfl, rfl⟩⟩, fun k hk => (hnone k hk).elim, fun k hk => (hnone k hk).elim, fun k hk => (hnone k hk).elim, hbx, NewRow.nil hbl, by omega⟩
  rw [← hw2, ← hb9]
  clear hw2 hb9 hbx hbl hnone
  go_wp2_with fail
  go_loopw [4] (fun i wr => ∃ (j : Nat) (fv : Value), j ≤ N ∧ i = .int .i64 j ∧ Hid (RcI w wr b9 (.slice none 0 0) (.slice none 0 0) fv (hiS (d.files.take j)))) (fun i wr => N - (intOf i).toNat)
  case atStart => exact ⟨0, .slice none 0 0, Nat.zero_le _, rfl, HI0⟩
  case round =>
    obtain ⟨i, fv2, hi, rfl, HI⟩ := hrel
    have c0 : wr.cell? ⟨p, 0, none⟩ = some (.slice og N cg) := cell_of ((HI.out.files.below.block p (Array.getElem?_eq_some_iff.1 H.out.1).1).trans H.out.1) rfl
    by_cases hlt2 : i < N
    · have hjf : i < d.files.length := by rw [HN.out]; exact hlt2
      have hrw := H.out.2.1.kept (fun k hk => HI.out.files.below.block k (H.out.2.1.lt k hk))
      obtain ⟨g, off, rfl⟩ := hrw.addr (by omega)
      obtain ⟨f, hf⟩ : ∃ x, d.files[i] = x := ⟨_, rfl⟩
      have hsz := H.out.2.2 f (by rw [← hf]; exact List.getElem_mem _)
      obtain ⟨x0, hx0⟩ : ∃ a : ByteArray, a = ⟨f.name.toArray⟩ := ⟨_, rfl⟩
      obtain ⟨x1, hx1⟩ : ∃ a : ByteArray, a = ⟨f.bytes.toArray⟩ := ⟨_, rfl⟩
      obtain ⟨la, hx2⟩ : ∃ a : Nat, a = f.lasts := ⟨_, rfl⟩
      obtain ⟨x3, hx3⟩ : ∃ a, a = f.there := ⟨_, rfl⟩
      obtain ⟨x4, hx4⟩ : ∃ a, a = f.named := ⟨_, rfl⟩
      have hlb : x1.size = f.bytes.length := by rw [hx1]; rfl
      have hxc : rfFile f = [.string x0, .string x1, .int .i64 la, .bool x3, .bool x4] := by
        unfold rfFile
        rw [hx0, hx1, hx2, hx3, hx4]
      have k0 : wr.cell? ⟨g, off + i * 5, none⟩ = some (.string x0) := rf_cell (i := 0) hrw hjf (by omega) (by rw [hf, hxc]; rfl)
      have k1 : wr.cell? ⟨g, off + i * 5 + 1, none⟩ = some (.string x1) := rf_cell (i := 1) hrw hjf (by omega) (by rw [hf, hxc]; rfl)
      have k2 : wr.cell? ⟨g, off + i * 5 + 2, none⟩ = some (.int .i64 la) := rf_cell (i := 2) hrw hjf (by omega) (by rw [hf, hxc]; rfl)
      have k3 : wr.cell? ⟨g, off + i * 5 + 3, none⟩ = some (.bool x3) := rf_cell (i := 3) hrw hjf (by omega) (by rw [hf, hxc]; rfl)
      have k4 : wr.cell? ⟨g, off + i * 5 + 4, none⟩ = some (.bool x4) := rf_cell (i := 4) hrw hjf (by omega) (by rw [hf, hxc]; rfl)
      have hst := hiS_succ hjf
      rw [hf] at hst
      have hfl : (hiS (d.files.take i)).fl.length = i := by
        show ((d.files.take i).map highF).length = i
        rw [List.length_map, List.length_take]
        omega
      obtain ⟨s, hs⟩ : ∃ s, hiS (d.files.take i) = s := ⟨_, rfl⟩
      rw [hs] at hst HI hfl
      obtain ⟨lb, hlbe⟩ : ∃ b, x1.size = b := ⟨_, rfl⟩
      have hcut : rfCells [cutF f (f.bytes.length - f.lasts)] = [.string x0, .string x1, .int .i64 (lb : Int), .bool true, .bool true] := by
        show rfFile (cutF f (f.bytes.length - f.lasts)) ++ [] = _
        rw [List.append_nil]
        have e : f.lasts + (f.bytes.length - f.lasts) = f.bytes.length := by have := hsz.1; omega
        unfold rfFile cutF
        rw [e, List.take_length, ← hlbe, hlb, hx0, hx1]
      have HST := Lib.hid (And.intro hst hcut)
      clear hst hf hx0 hx1 hx2 hx3 hx4 hlb hxc hrw hjf hs hcut
      go_upto_region 6 with fail
      obtain ⟨w6, hw6⟩ : ∃ V : World, V = wr.alloc (.cells #[.string x0, .string x1, .int .i64 la, .bool x3, .bool x4] 200) := ⟨_, rfl⟩
      obtain ⟨b5, hb5⟩ : ∃ b, b = wr.heap.size := ⟨_, rfl⟩
      have h6 : w6.heap[b5]? = some (.cells #[.string x0, .string x1, .int .i64 la, .bool x3, .bool x4] 200 (0, 0)) := by rw [hw6, hb5]; exact alloc_cells _ _ _
      have hb6 : Below wr.heap.size wr w6 := by rw [hw6]; exact (Below.refl _ _).alloc (Nat.le_refl _) _
      have HI6 := Lib.hid (HI.out.kept hb6)
      rw [← hw6, ← hb5]
      have e0 : w6.cell? ⟨b5, 0, none⟩ = some (.string x0) := cell_of h6 rfl
      have e1 : w6.cell? ⟨b5, 1, none⟩ = some (.string x1) := cell_of h6 rfl
      have e0d : w6.drew.cell? ⟨b5, 0, none⟩ = some (.string x0) := e0
      have e1d : w6.drew.cell? ⟨b5, 1, none⟩ = some (.string x1) := e1
      obtain ⟨fo, fc, rfl, hfc⟩ := HI6.out.files.row.shape
      rw [hfl] at HI6
      have e2 : w6.cell? ⟨b9, 0, none⟩ = some (.slice fo i fc) := cell_of HI6.out.box rfl
      have e2d : w6.drew.cell? ⟨b9, 0, none⟩ = some (.slice fo i fc) := e2
      have hb9l : b9 < w6.heap.size := HI6.out.boxlt
      have e2a : ∀ o : Obj, (w6.drew.alloc o).cell? ⟨b9, 0, none⟩ = some (.slice fo i fc) := fun o => (((Below.refl _ w6.drew).alloc (Nat.le_refl _) o).cell (p := ⟨b9, 0, none⟩) hb9l).trans e2d
      have HBA : Hid (∀ o : Obj, Below w6.heap.size w6 (w6.drew.alloc o)) := Lib.hid (fun o => ⟨rfl, rfl, rfl, by simp, fun k hk => Below.heap_alloc w6.drew o k hk⟩)
      have hnm : i ≤ 10000 := by omega
      clear hw6 hb5 h6 hb6 k0 k1 k2 k3 k4 c0 hfc hsz hfl
      go_region_law (refine step_append_rf (w0 := w) (by rfl) (.tmp 28) (.tmp 37) (by rfl) (HI6.out.files.kept (HBA.out _)) (f' := cutF f (f.bytes.length - f.lasts)) (cb := 1) (by rw [HST.out.2]; exact (rfive_row w6.drew _ _ _ _ _).read) hnm (by rfl) (by rfl) ?_; intro oa9 c9 w9 HR9 HKT HKX; have HS3 := Lib.hid (RcI.file HI6.out HR9.out ((KeepT.of (HBA.out _)).trans HKT.out)); have c93 : w9.cell? ⟨b9, 0, none⟩ = some (.slice fo i fc) := cell_of HS3.out.1 rfl; have z93 : w9.frozen? ⟨b9, 0, none⟩ = false := free_of HS3.out.1 _)
      all_goals
        have hfin := HS3.out.2
        rw [← HST.out.1] at hfin
        have HFIN := Lib.hid hfin
        clear hfin
        go_wp2_with fail
        exact ⟨⟨i + 1, .slice oa9 (i + 1) c9, by omega, by simp, HFIN⟩, by simp [intOf]; omega⟩
    · obtain rfl : i = N := by omega
      have hall : d.files.take i = d.files := List.take_of_length_le (by rw [HN.out]; exact Nat.le_refl _)
      rw [hall] at HI
      go_wp2_with fail
      go_ret
      exact ⟨b9, rfl, HI.out.lite, HI.out.files.below⟩
end Go.Proofs.Ytmkjejngnahpeaa
