/- Disk: New, with any fates. -/
import Derived.Test.YtmkjejngnahpeaaEs
namespace Go.Proofs.Ytmkjejngnahpeaa
open Go Go.Maps Go.RowKit

theorem disk_newF {w w2 w3 : World} {v : Value} {l : List (Int × Int)} (hw2 : w2 = w.alloc (.map #[] 0)) (hb : Below w2.heap.size w2 w3) (hr : rowAt w3 99 2 v l.length (fateCells l)) (hv : ∀ k, v.ownBlock = some k → w2.heap.size ≤ k) :
    DiskIs (w3.alloc (.cells #[.map (some w.heap.size), v, .int .i64 0] 122)) (fun k => w.heap.size ≤ k ∧ k < w3.heap.size + 1) w3.heap.size w.heap.size v [] ⟨[], l, 0⟩ := by
  have hs2 : w2.heap.size = w.heap.size + 1 := by rw [hw2]; simp
  have hs3 := hb.size
  have hm2 : w2.ownsMap Try.prog 9 ptrElem w.heap.size 0 (.map []) := by rw [hw2]; exact World.ownsMap_made w Try.prog 9 ptrElem
  have hm3 := ownsMap_kept hm2 (hb.block w.heap.size (by omega))
  have hvb : ∀ k, v.ownBlock = some k → w.heap.size + 1 ≤ k ∧ k < w3.heap.size := fun k hk => ⟨by have := hv k hk; omega, hr.lt k hk⟩
  exact {
    files := rfl
    head := alloc_cells _ _ _
    fates := hr.kept (fun k hk => Below.heap_alloc _ _ k (hr.lt k hk))
    map := ⟨_, hm3.alloc _, Dic.empty⟩
    each := fun x hx => (by cases hx)
    apart := by
      cases ho : v.ownBlock with
      | none =>
        simp [diskBlocks, ho]
        omega
      | some k =>
        have := hvb k ho
        simp [diskBlocks, ho]
        omega
    foot := fun k hk => by
      simp only [diskBlocks, List.mem_cons, List.flatMap_nil, List.append_nil, Option.mem_toList] at hk
      rcases hk with rfl | rfl | hk
      · omega
      · omega
      · have := hvb k hk
        omega
    low := fun k hk => by simp; omega
    sorted := by simp
    names := fun f hf => by simp at hf
    few := by simp }
set_option maxHeartbeats 400000 in
theorem newF_b {w : World} {oa : Option Addr} {n c : Nat} {l : List (Int × Int)} (hn : l.length = n) (h : readAt w 2 (.slice oa n c) n (fateCells l)) (hm : n ≤ 1000000000) (hok : l.any badFate = false) :
    Calls Try.prog 23 #[.slice oa n c] w fun e w' => ∃ q, e = .returned (.tuple #[.pointer (some ⟨q, 0, none⟩), .int .i64 0]) ∧ DiskAt w' (fun k => w.heap.size ≤ k ∧ k < w'.heap.size) q ⟨[], l, 0⟩ ∧ Below w.heap.size w w' := by
  have hmm := @run_makeMap Try.prog
  go_enter Try.func23, Try.ntmps23
  go_wp2_with fail
  refine (right_b hn h hm).mono ?_
  rintro e w1 ⟨rfl, hb1⟩
  rw [hok]
  have H1 := Lib.hid (h.kept (fun k hl _ _ => hb1.block k hl))
  have HB1 := Lib.hid hb1
  clear h hb1
  go_upto_region 3 with fail
  go_wp2_with fail
  have hbm : Below w1.heap.size w1 (w1.alloc (.map #[] 0)) := (Below.refl _ _).alloc (Nat.le_refl _) _
  refine (cloneFate_b hn (H1.out.kept (fun k hl _ _ => hbm.block k hl)) hm).mono ?_
  rintro e w3 ⟨v, rfl, hr3, hv3, hb3⟩
  obtain ⟨oav, cv, rfl, _⟩ := hr3.shape
  subst hn
  have hdn := disk_newF rfl hb3 hr3 hv3
  have hs3 := hb3.size
  have HD := Lib.hid hdn
  have HB3 := Lib.hid (And.intro hb3 (And.intro hbm hs3))
  clear hr3 hv3 hb3 hbm hdn hs3
  go_wp2_with fail
  go_ret2
  have h1 := HB1.out.size
  have h3 := HB3.out.2.2
  simp at h3
  refine ⟨_, rfl, ⟨_, _, _, HD.out.wider (fun k hk => ⟨by omega, by simp; omega⟩) (fun k hk => hk.2)⟩, ?_⟩
  exact (HB1.out.trans ((HB3.out.2.1.trans (HB3.out.1.mono HB3.out.2.1.size)).mono h1)).alloc (by omega) _
end Go.Proofs.Ytmkjejngnahpeaa
