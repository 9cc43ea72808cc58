/- Disk: Names. -/
import Derived.Test.YtmkjejngnahpeaaFh
namespace Go.Proofs.Ytmkjejngnahpeaa
open Go Go.Maps Go.RowKit
open Go.Proofs (encStr)

/-- the names of the files that are there -/
def Dk.names (d : Dk) : List (List UInt8) := (d.files.filter (·.there)).map (·.name)
theorem encN_names {L : List Fl} {d : Dk} (h : L.map (·.f) = d.files) : encN (L.filter (·.f.there)) = d.names.map encStr ∧ (L.filter (·.f.there)).length = d.names.length := by
  have e : d.names = (L.filter (·.f.there)).map (·.f.name) := by
    unfold Dk.names
    rw [← h, List.filter_map, List.map_map]
    rfl
  rw [e]
  exact ⟨by simp [encN, List.map_map, Function.comp_def], by simp⟩
set_option maxRecDepth 100000 in
set_option maxHeartbeats 1000000 in
theorem Names_b {w : World} {S : Nat → Prop} {q : Nat} {d : Dk} (h : DiskAt w S q d) :
    Calls Try.prog 52 #[.pointer (some ⟨q, 0, none⟩)] w fun e w' => ∃ v, e = .returned v ∧ rowAt w' 9 1 v d.names.length (d.names.map encStr) ∧ (∀ k, v.ownBlock = some k → w.heap.size ≤ k) ∧ Below w.heap.size w w' := by
  obtain ⟨mb, fv, L, h⟩ := h
  obtain ⟨hE1, hE2⟩ := encN_names h.files
  have HE := Lib.hid (And.intro hE1 hE2)
  have hlen : L.length ≤ 4096 := by
    have h1 := h.few
    rw [← h.files, List.length_map] at h1
    exact h1
  have HLN := Lib.hid hlen
  clear hE1 hE2 hlen
  go_enter Try.func52, Try.ntmps52
  go_upto_region 1 with fail
  obtain ⟨w1, hw1⟩ : ∃ w1 : World, w1 = w.alloc (.cells #[.pointer (some ⟨q, 0, none⟩)] 37) := ⟨_, rfl⟩
  obtain ⟨b, hb⟩ : ∃ b, b = w.heap.size := ⟨_, rfl⟩
  have hc1 : w1.heap[b]? = some (.cells #[.pointer (some ⟨q, 0, none⟩)] 37 (0, 0)) := by rw [hw1, hb]; exact alloc_cells _ _ _
  have hb1 : Below w.heap.size w w1 := by rw [hw1]; exact (Below.refl _ _).alloc (Nat.le_refl _) _
  rw [← hb, ← hw1]
  have HB1 := Lib.hid hb1
  have H1 := Lib.hid (h.below hb1)
  have HBB := Lib.hid hb
  clear hw1 hb hb1 h
  have c0 : w1.cell? ⟨b, 0, none⟩ = some (.pointer (some ⟨q, 0, none⟩)) := cell_of hc1 rfl
  have HC1 := Lib.hid hc1
  clear hc1
  go_wp2_with fail
  refine (names_b H1.out).mono ?_
  rintro e w2 ⟨v, rfl, hrow, hnil, hb2⟩
  have hr2 := rowAt.of_row (hasRow.of_own hrow)
  have hlow := (hasRow.of_own hrow).lt
  have hbl : b < w1.heap.size := (Array.getElem?_eq_some_iff.1 HC1.out).1
  have hc2 : w2.cell? ⟨b, 0, none⟩ = some (.pointer (some ⟨q, 0, none⟩)) := cell_of ((hb2.block b hbl).trans HC1.out) rfl
  have HD : Hid (Calls Try.prog 125 #[v, .func (.func 126) #[] #[.pointer (some ⟨b, 0, none⟩)]] w2 fun e w' => ∃ v', e = .returned v' ∧ rowAt w' 9 1 v' (L.filter (·.f.there)).length (encN (L.filter (·.f.there))) ∧ v'.ownBlock = v.ownBlock ∧ w2.grownBy w' v.ownBlock) := Lib.hid
    (deleteGone_b (H1.out.below hb2) hc2 rfl hr2 (by have := HLN.out; omega) (fun k hk => ⟨fun hs => by
      have h1 := H1.out.low k hs
      have h2 := (hlow k hk).1
      omega, fun e => by have h2 := (hlow k hk).1; omega⟩))
  have HB2 : Hid (Below w.heap.size w w2 ∧ w1.heap.size ≤ w2.heap.size) := Lib.hid ⟨HB1.out.trans (hb2.mono HB1.out.size), hb2.size⟩
  have HLOW := Lib.hid hlow
  clear hrow hnil hb2 hr2 hlow hc2 c0 hbl
  go_wp2_with fail
  refine HD.out.mono ?_
  rintro e w3 ⟨v', rfl, hr3, hv3, hg3⟩
  have hb3 : Below w.heap.size w w3 := HB2.out.1.grown hg3 HB2.out.1.size (fun k hk => by
    have h1 := (HLOW.out k hk).1
    have h2 := HB1.out.size
    omega)
  have HR : Hid (rowAt w3 9 1 v' d.names.length (d.names.map encStr)) := Lib.hid (by rw [← HE.out.1, ← HE.out.2]; exact hr3)
  have HV : Hid (∀ k, v'.ownBlock = some k → w.heap.size ≤ k) := Lib.hid (fun k hk => by
    rw [hv3] at hk
    have h1 := (HLOW.out k hk).1
    have h2 := HB1.out.size
    omega)
  have HB3 := Lib.hid hb3
  clear hr3 hv3 hg3 hb3
  go_wp2_with fail
  go_ret
  exact ⟨_, rfl, HR.out, HV.out, HB3.out⟩
end Go.Proofs.Ytmkjejngnahpeaa
