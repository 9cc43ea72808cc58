/- Disk: what the disk is, in plain words: files by rising names, fates, steps; what each call makes of it. -/
import Derived.Test.YtmkjejngnahpeaaKit
import Derived.WalkKit
namespace Go.Proofs.Ytmkjejngnahpeaa
open Go Go.RowKit

structure F0 where
  name : List UInt8
  bytes : List UInt8
  lasts : Nat
  there : Bool
  named : Bool
deriving DecidableEq
structure Dk where
  files : List F0
  fates : List (Int × Int)
  steps : Int

def okByte (c : UInt8) : Bool := (decide (97 ≤ c.toNat) && decide (c.toNat ≤ 122)) || (decide (48 ≤ c.toNat) && decide (c.toNat ≤ 57)) || c.toNat == 46 || c.toNat == 45
def nameOk (s : List UInt8) : Bool := s.all okByte && decide (1 ≤ s.length) && decide (s.length ≤ 32)
/-- the file of a name -/
def Dk.at (d : Dk) (s : List UInt8) : Option F0 := d.files.find? (fun f => f.name == s)
/-- a file that is there -/
def Dk.find (d : Dk) (s : List UInt8) : Option F0 := (d.at s).filter (·.there)
/-- the error of a fate, and what it keeps -/
def Dk.fate (d : Dk) : Int × Nat :=
  match d.fates with
  | [] => (0, 0)
  | (k, n) :: _ => if k = 1 then (5, n.toNat) else if k = 2 then (6, n.toNat) else (0, n.toNat)
def Dk.next (d : Dk) : Dk := { d with fates := d.fates.tail, steps := wrap64 (d.steps + 1) }
/-- files with another one put in by its name -/
def insF (f : F0) : List F0 → List F0
  | [] => [f]
  | g :: r => if g.name < f.name then g :: insF f r else f :: g :: r
def Dk.turn (d : Dk) (s : List UInt8) (t : F0 → F0) : Dk := { d with files := d.files.map fun f => if f.name = s then t f else f }
def Dk.create (d : Dk) (s : List UInt8) : Int × Dk :=
  if nameOk s = false then (2, d)
  else if (d.at s).isSome then (170, d)
  else if 4096 ≤ d.files.length then (6, d)
  else if d.fate.1 ≠ 0 then (d.fate.1, d.next)
  else (0, { d.next with files := insF ⟨s, [], 0, true, false⟩ d.files })
def Dk.append (d : Dk) (s b : List UInt8) : Int × Dk :=
  if nameOk s = false then (2, d)
  else match d.find s with
    | none => (171, d)
    | some f => if 16777216 < b.length + f.bytes.length then (6, d)
      else (d.fate.1, d.next.turn s fun f => { f with bytes := f.bytes ++ (if d.fate.1 = 0 then b else b.take d.fate.2) })
def Dk.sync (d : Dk) (s : List UInt8) : Int × Dk :=
  if nameOk s = false then (2, d)
  else match d.find s with
    | none => (171, d)
    | some _ => (d.fate.1, d.next.turn s fun f => { f with lasts := if d.fate.1 = 0 then f.bytes.length else f.lasts + min (f.bytes.length - f.lasts) d.fate.2 })
theorem mem_insF (f g : F0) : ∀ l : List F0, g ∈ insF f l ↔ g = f ∨ g ∈ l
  | [] => by simp [insF]
  | h :: r => by
    unfold insF
    split
    · simp only [List.mem_cons, mem_insF f g r]
      constructor
      · rintro (h | h | h) <;> simp [h]
      · rintro (h | h | h) <;> simp [h]
    · simp
theorem lt_of_not_lt_ne {a b : List UInt8} (h : ¬ b < a) (hne : b ≠ a) : a < b := by
  refine Classical.byContradiction fun hn => hne ?_
  exact List.le_antisymm (List.not_lt.1 hn) (List.not_lt.1 h)
theorem insF_sorted (f : F0) : ∀ l : List F0, (l.map (·.name)).Pairwise (· < ·) → (∀ g ∈ l, g.name ≠ f.name) → ((insF f l).map (·.name)).Pairwise (· < ·)
  | [], _, _ => by simp [insF]
  | g :: r, hs, hne => by
    rw [List.map_cons, List.pairwise_cons] at hs
    unfold insF
    split
    · rename_i hlt
      rw [List.map_cons, List.pairwise_cons]
      refine ⟨fun y hy => ?_, insF_sorted f r hs.2 (fun g hg => hne g (List.mem_cons_of_mem _ hg))⟩
      obtain ⟨z, hz, rfl⟩ := List.mem_map.1 hy
      rcases (mem_insF f z r).1 hz with rfl | hz
      · exact hlt
      · exact hs.1 _ (List.mem_map_of_mem hz)
    · rename_i hlt
      have hfg : f.name < g.name := lt_of_not_lt_ne hlt (hne g (by simp))
      rw [List.map_cons, List.map_cons, List.pairwise_cons, List.pairwise_cons]
      refine ⟨fun y hy => ?_, hs.1, hs.2⟩
      rcases List.mem_cons.1 hy with rfl | hy
      · exact hfg
      · exact List.lt_trans hfg (hs.1 y hy)
theorem insF_length (f : F0) : ∀ l : List F0, (insF f l).length = l.length + 1
  | [] => rfl
  | g :: r => by
    unfold insF
    split
    · simp [insF_length f r]
    · rfl
end Go.Proofs.Ytmkjejngnahpeaa
