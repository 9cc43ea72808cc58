/- Disk: a map from names to files, as a ghost: its keys and the blocks at them; what may turn. -/
import Derived.Test.YtmkjejngnahpeaaKit
import Derived.Maps.OwnSet
import Derived.Sort.KeysCollected
namespace Go.Proofs.Ytmkjejngnahpeaa
open Go Go.Maps Go.RowKit

/-- how a pointer to a block reads: by the block's number -/
def ptrElem : Value → Option (DataW Unit × List MemPlace)
  | .pointer (some ⟨b, 0, none⟩) => some (.lit (.int .i64 b), [])
  | .pointer none => some (.nil, [])
  | _ => none
theorem ptrElem_mk (b : Nat) : ptrElem (.pointer (some ⟨b, 0, none⟩)) = some (.lit (.int .i64 b), []) := rfl
theorem ptrElem_nil : ptrElem (.pointer none) = some (.nil, []) := rfl
theorem ptrElem_inv {v : Value} {b : Nat} {ps : List MemPlace} (h : ptrElem v = some (.lit (.int .i64 b), ps)) : v = .pointer (some ⟨b, 0, none⟩) := by
  unfold ptrElem at h
  split at h
  · simp at h
    have h1 := Int.ofNat_inj.1 h.1
    rw [h1]
  · simp at h
  · cases h
theorem ptrElem_inv_nil {v : Value} {ps : List MemPlace} (h : ptrElem v = some (.nil, ps)) : v = .pointer none := by
  unfold ptrElem at h
  split at h
  · simp at h
  · rfl
  · cases h

/-- nothing that lay in w has turned but blocks of which S holds -/
structure Only (S : Nat → Prop) (w w' : World) : Prop where
  os : w'.os = w.os
  tape : w'.tape = w.tape
  output : w'.output = w.output
  size : w.heap.size ≤ w'.heap.size
  block : ∀ k, k < w.heap.size → ¬ S k → w'.heap[k]? = w.heap[k]?
theorem Only.refl (S : Nat → Prop) (w : World) : Only S w w := ⟨rfl, rfl, rfl, Nat.le_refl _, fun _ _ _ => rfl⟩
theorem Only.trans {S T : Nat → Prop} {a b c : World} (h : Only S a b) (k : Only T b c) (hT : ∀ i, i < a.heap.size → T i → S i) : Only S a c :=
  ⟨k.os.trans h.os, k.tape.trans h.tape, k.output.trans h.output, Nat.le_trans h.size k.size, fun i hi hn => (k.block i (Nat.lt_of_lt_of_le hi h.size) (fun ht => hn (hT i hi ht))).trans (h.block i hi hn)⟩
theorem Only.mono {S T : Nat → Prop} {a b : World} (h : Only S a b) (hT : ∀ i, i < a.heap.size → S i → T i) : Only T a b :=
  ⟨h.os, h.tape, h.output, h.size, fun i hi hn => h.block i hi (fun hs => hn (hT i hi hs))⟩
theorem Only.of_below {B : Nat} {w w' : World} (h : Below B w w') (hB : w.heap.size ≤ B) (S : Nat → Prop) : Only S w w' :=
  ⟨h.os, h.tape, h.output, h.size, fun i hi _ => h.block i (Nat.lt_of_lt_of_le hi hB)⟩
theorem Only.below {S : Nat → Prop} {B : Nat} {w w' : World} (h : Only S w w') (hS : ∀ i, i < B → ¬ S i) (hB : B ≤ w.heap.size) : Below B w w' :=
  ⟨h.os, h.tape, h.output, h.size, fun i hi => h.block i (Nat.lt_of_lt_of_le hi hB) (hS i hi)⟩
theorem Only.of_grown {S : Nat → Prop} {w w' : World} {row : Option Nat} (h : w.grownBy w' row) (hS : ∀ k, row = some k → S k) : Only S w w' :=
  ⟨h.os, h.tape, h.output, h.size, fun i hi hn => h.block i hi (fun e => hn (hS i e.symm))⟩

/-- the map's keys are the list's names, at each the block -/
structure Dic (D : DataW Unit) (L : List (List UInt8 × Nat)) : Prop where
  has : ∀ x, has D (.string x) = true ↔ ∃ f ∈ L, f.1 = x
  get : ∀ f ∈ L, ∀ z, D.atKey (.string f.1) z = .lit (.int .i64 f.2)
  isMap : IsMap D
theorem Dic.empty : Dic (.map []) [] := ⟨fun x => by simp [Maps.has], fun f hf => (by cases hf), isMap_empty⟩
theorem keyLit_string (x : List UInt8) : WideAt.IsKeyLit (.string x) := trivial
theorem Dic.put {D : DataW Unit} {L : List (List UInt8 × Nat)} (h : Dic D L) (x : List UInt8) (b : Nat) {L' : List (List UInt8 × Nat)} (hL : ∀ f, f ∈ L' ↔ f = (x, b) ∨ f ∈ L) (hx : ∀ f ∈ L, f.1 ≠ x) : Dic (D.put (.string x) (.lit (.int .i64 b))) L' := by
  refine ⟨fun y => ?_, fun f hf z => ?_, h.isMap.put _ _⟩
  · by_cases hy : y = x
    · subst hy
      rw [has_put_same h.isMap (keyLit_string _)]
      simp only [true_iff]
      exact ⟨(y, b), (hL _).2 (.inl rfl), rfl⟩
    · rw [has_put_other (by simpa using hy), h.has y]
      constructor
      · rintro ⟨f, hf, rfl⟩
        exact ⟨f, (hL f).2 (.inr hf), rfl⟩
      · rintro ⟨f, hf, rfl⟩
        rcases (hL f).1 hf with rfl | hf
        · exact absurd rfl hy
        · exact ⟨f, hf, rfl⟩
  · rcases (hL f).1 hf with rfl | hf
    · exact atKey_put_same h.isMap (keyLit_string _) _ _
    · rw [atKey_put_other (by simpa using hx f hf)]
      exact h.get f hf z
theorem Dic.del {D : DataW Unit} {L : List (List UInt8 × Nat)} (h : Dic D L) (x : List UInt8) {L' : List (List UInt8 × Nat)} (hL : ∀ f, f ∈ L' ↔ f ∈ L ∧ f.1 ≠ x) : Dic (D.del (.string x)) L' := by
  refine ⟨fun y => ?_, fun f hf z => ?_, h.isMap.del _⟩
  · by_cases hy : y = x
    · subst hy
      rw [has_del_same]
      constructor
      · intro h0; cases h0
      · rintro ⟨f, hf, he⟩
        exact absurd he ((hL f).1 hf).2
    · rw [has_del_other (by simpa using hy), h.has y]
      constructor
      · rintro ⟨f, hf, rfl⟩
        exact ⟨f, (hL f).2 ⟨hf, hy⟩, rfl⟩
      · rintro ⟨f, hf, rfl⟩
        exact ⟨f, ((hL f).1 hf).1, rfl⟩
  · have := (hL f).1 hf
    rw [atKey_del_other (by simpa using this.2)]
    exact h.get f this.1 z
end Go.Proofs.Ytmkjejngnahpeaa
