/- The texts Lg in one. -/
import Derived.Test.YtlgcoaeddeiegaaGreatV6
/- Marks of ranges over functions, any number of them: how a frame that has some leaves. -/
namespace Go.Proofs.YtlgcoaeddeiegaaGreat
open Go Go.RowKit

/-- the mark that a range over a function leaves among the deferred calls -/
def markD (k : Nat) : Deferred := { target := .collected k, args := #[] }
/-- the blocks of marks lie there, untouched -/
def MarksAt (W : World) (ks : List Nat) : Prop := ks.Nodup ∧ ∀ k ∈ ks, W.heap[k]? = some (.deferred (some []))
theorem MarksAt.nil {W : World} : MarksAt W [] := ⟨List.nodup_nil, fun _ hk => by cases hk⟩
theorem MarksAt.lt {W : World} {ks : List Nat} (h : MarksAt W ks) : ∀ k ∈ ks, k < W.heap.size := fun k hk => (Array.getElem?_eq_some_iff.1 (h.2 k hk)).1
theorem MarksAt.kept {W W' : World} {ks : List Nat} {X : Nat → Prop} (h : MarksAt W ks) (ho : Only X W W') (hX : ∀ k ∈ ks, ¬ X k) : MarksAt W' ks :=
  ⟨h.1, fun k hk => (ho.block k (h.lt k hk) (hX k hk)).trans (h.2 k hk)⟩
theorem MarksAt.below {W W' : World} {ks : List Nat} (h : MarksAt W ks) (hb : Below W.heap.size W W') : MarksAt W' ks :=
  ⟨h.1, fun k hk => (hb.block k (h.lt k hk)).trans (h.2 k hk)⟩
theorem MarksAt.cons {W' : World} {ks : List Nat} {k : Nat} (h : MarksAt W' ks) (hk : W'.heap[k]? = some (.deferred (some []))) (hlt : ∀ j ∈ ks, j < k) : MarksAt W' (k :: ks) :=
  ⟨List.nodup_cons.2 ⟨fun hm => Nat.lt_irrefl _ (hlt k hm), h.1⟩, fun j hj => by
    rcases List.mem_cons.1 hj with rfl | hj
    · exact hk
    · exact h.2 j hj⟩
/-- a store into a cell leaves the marks -/
theorem MarksAt.setCell {W : World} {ks : List Nat} (h : MarksAt W ks) (p : Addr) (v : Value) : MarksAt (W.setCell p v) ks :=
  ⟨h.1, fun k hk => (KeepsOthers.setCell W p v).same k _ (h.2 k hk) rfl⟩
/-- all marks are unwound -/
theorem leaves_marks {F : Fence} {n : Nat} {P : Program} {fn : Func} {tmps : Array Value} {R : Ending → World → Prop} : ∀ (ks : List Nat) (W : World), MarksAt W ks →
    (∀ W', Only (fun k => k ∈ ks) W W' → (∃ v, (results fn tmps).run P W' = .ok v W' ∧ R (.returned v) W')) → LeavesInM F n P fn tmps R (ks.map markD) .returning W
  | [], W, _, h => h W (Only.refl _ _)
  | k :: ks, W, hm, h => by
    have hk := hm.2 k (List.mem_cons_self ..)
    have hnd := List.nodup_cons.1 hm.1
    refine ⟨by simp, .inl ⟨k, W.putObj k (.deferred none), rfl, run_takeDeferred hk, leaves_marks ks _ ⟨hnd.2, fun j hj => ?_⟩ (fun W' ho => h W' ((only_put _ W k _ (List.mem_cons_self ..)).trans ho (fun j _ hj => List.mem_cons_of_mem _ hj)))⟩⟩
    have hne : j ≠ k := fun e => hnd.1 (e ▸ hj)
    exact (World.putObj_heap_other hne).trans (hm.2 j (List.mem_cons_of_mem _ hj))
end Go.Proofs.YtlgcoaeddeiegaaGreat
