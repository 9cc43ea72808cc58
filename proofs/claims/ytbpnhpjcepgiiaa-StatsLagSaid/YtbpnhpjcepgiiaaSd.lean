/- Stats: slices.SortFunc of floats by their order, off the shelf. -/
import Derived.Test.YtbpnhpjcepgiiaaSb
import Derived.Shelf.SlSortCmp.Whole1
import Derived.Shelf.SlGeneric
import Derived.Ground.SlsfProg
namespace Go.Proofs.Ytbpnhpjcepgiiaa
open Go.RowKit Fl Go.Shelf Go.Sort
shelf_lay_g SlLaysF.n6 Slsf 6 at Try 95 as sortF

/-- a float's word -/
abbrev W64 := {x : Nat // x < 18446744073709551616}
def encW (x : W64) : Value := .float .f64 x.1
def cmpW (x y : W64) : Int := ordF x.1 y.1
instance : Inhabited W64 := ⟨⟨0, by decide⟩⟩
theorem ltW (x y : W64) : ltOf cmpW x y = decide (placeW x.1 < placeW y.1) := by
  unfold ltOf cmpW ordF cmpI
  by_cases h1 : placeW x.1 < placeW y.1
  · simp [h1]
  · by_cases h2 : placeW y.1 < placeW x.1 <;> simp [h1, h2]
theorem swoW : SWO (ltOf cmpW) where
  irrefl x := by rw [ltW]; simp
  trans x y z h1 h2 := by rw [ltW] at *; simp at *; omega
  ntrans x y z h1 h2 := by rw [ltW] at *; simp at *; omega
theorem cmpReadsW (blk off size : Nat) (w : World) : CmpReads Try.prog 78 #[] encW cmpW blk off size w :=
  fun _ _ _ _ x y => (rorder_any x.1 y.1 _ x.2 y.2).mono fun _ _ ⟨h1, h2⟩ => ⟨h1, 0, by rw [← h2]; rfl⟩

theorem sortWorld_grown (w : World) (blk off n : Nat) (d : Array W64) (os : Array Obj) : w.grownBy (sortWorld encW w blk off n d os) (some blk) := by
  refine ⟨rfl, rfl, rfl, ?_, fun k hk hne => ?_⟩
  · simp [sortWorld, Sort.grow, Sort.putRow, Sort.mapBlock, Sort.ahead]
  · have hne' : ¬ blk = k := fun e => hne (by rw [e])
    show ((w.heap.modify blk _) ++ os)[k]? = w.heap[k]?
    rw [Array.getElem?_append_left (by simpa using hk), Array.getElem?_modify, if_neg hne']

set_option maxHeartbeats 1000000 in
theorem sortfunc_b (blk cap : Nat) (d : Array W64) (w : World) (hH : Holds encW w blk 0 d) (hblk : blk < w.heap.size) (hsz : d.size < 4611686018427387904) :
    Calls Try.prog 95 #[.slice (some ⟨blk, 0, none⟩) d.size cap, .func (.func 78) #[] #[]] w fun e w' => e = .returned (.tuple #[]) ∧
      ∃ d', PermIn 0 d.size d d' ∧ SortedIn (ltOf cmpW) 0 d.size d' ∧ (d' = Sort.pdq (ltOf cmpW) d 0 d.size (Lib.bitLen d.size) true true) ∧ Holds encW w' blk 0 d' ∧ w.grownBy w' (some blk) := by
  have eg : ∀ args w, (callFunc 78 args).run Try.prog w = .ok (.enter 78 args) w := enters_of Try.func78 (by kernel_rfl) rfl
  have hcon := Any.slices_SortFunc_eq sortF encW (fun _ => rfl) cmpW swoW 78 #[] blk 0 cap d w eg (cmpReadsW blk 0 d.size w).lays hH hblk hsz
  change Calls Try.prog 95 _ _ _ at hcon
  refine hcon.mono ?_
  rintro e w' ⟨he, n, os, hw⟩
  have hp := pdq_sorts (ltOf cmpW) swoW d 0 d.size (Lib.bitLen d.size) true true (Nat.zero_le _) (Nat.le_refl _) (Or.inl rfl)
  refine ⟨he, _, hp.1, hp.2, rfl, ?_, ?_⟩
  · rw [hw]; exact holds_sortWorld encW w blk 0 n d _ os hblk hH hp.1.1
  · rw [hw]; exact sortWorld_grown w blk 0 n _ os
end Go.Proofs.Ytbpnhpjcepgiiaa
