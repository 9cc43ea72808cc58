/- Disk: Remove. -/
import Derived.Test.YtmkjejngnahpeaaEn
namespace Go.Proofs.Ytmkjejngnahpeaa
open Go Go.Maps Go.RowKit

section
variable {w : World} {S : Nat → Prop} {q mb : Nat} {fv : Value} {d : Dk}
/-- a file is struck -/
theorem DiskIs.file_drop {w' : World} {A B : List Fl} {x : Fl} {n' : Nat} {D' : DataW Unit} {fs : List F0} (h : DiskIs w S q mb fv (A ++ x :: B) d) (ho : Only (fun k => k = mb) w w')
    (hm : w'.ownsMap Try.prog 9 ptrElem mb n' D') (hd : Dic D' ((A ++ B).map fun x => (x.f.name, x.blk))) (hfs : fs = A.map (·.f) ++ B.map (·.f)) : DiskIs w' S q mb fv (A ++ B) { d with files := fs } := by
  have hp := blocks_perm q mb fv A x B
  have hnd := (List.nodup_append.1 (hp.nodup_iff.1 h.apart)).2.1
  have hin : ∀ k ∈ diskBlocks q mb fv (A ++ B), S k := fun k hk => h.foot k (hp.mem_iff.2 (List.mem_append_right _ hk))
  have hne : ∀ k ∈ diskBlocks q mb fv (A ++ B), k ≠ mb → w'.heap[k]? = w.heap[k]? := fun k hk hk' => ho.block k (h.low k (hin k hk)) hk'
  have hap := hnd
  simp only [diskBlocks, List.nodup_cons, List.mem_cons, not_or] at hap
  have hmb : ∀ k, k ∈ fv.ownBlock.toList ++ (A ++ B).flatMap Fl.blocks → k ≠ mb := fun k hk e => hap.2.1 (e ▸ hk)
  have hfl : d.files = A.map (·.f) ++ x.f :: B.map (·.f) := by rw [← h.files]; simp
  have hsub : fs.Sublist d.files := by
    rw [hfs, hfl]
    exact List.Sublist.append_left (List.sublist_cons_self _ _) _
  have hs2 : (fs.map (·.name)).Pairwise (· < ·) := h.sorted.sublist (hsub.map _)
  exact {
    files := by rw [hfs]; simp
    head := (hne q (by simp [diskBlocks]) (fun e => hap.1.1 e)).trans h.head
    fates := h.fates.kept (fun k hk => hne k (by simp [diskBlocks, hk]) (hmb k (by simp [hk])))
    map := by
      refine ⟨D', ?_, hd⟩
      have h1 := ownsMap_tight hm
      rw [hd.size hm (by
        rw [List.map_map]
        have : ((A ++ B).map (·.f.name)).Pairwise (· < ·) := by rw [hfs] at hs2; simpa [Function.comp_def] using hs2
        exact this.imp (fun {a b} hab he => by rw [he] at hab; exact List.lt_irrefl _ hab))] at h1
      simpa using h1
    each := fun y hy => (h.each y (by
      rcases List.mem_append.1 hy with h1 | h1
      · simp [h1]
      · simp [h1])).kept (fun k hk => by
        have h1 : k ∈ fv.ownBlock.toList ++ (A ++ B).flatMap Fl.blocks := List.mem_append_right _ (List.mem_flatMap.2 ⟨y, hy, hk⟩)
        exact hne k (by simp only [diskBlocks, List.mem_cons]; exact .inr (.inr h1)) (hmb k h1))
    apart := hnd
    foot := hin
    low := fun k hk => Nat.lt_of_lt_of_le (h.low k hk) ho.size
    sorted := hs2
    names := fun f hf => h.names f (hsub.subset hf)
    few := Nat.le_trans hsub.length_le h.few }
end
def Dk.remove (d : Dk) (s : List UInt8) : Int × Dk :=
  if nameOk s = false then (2, d)
  else match d.find s with
    | none => (171, d)
    | some f => if d.fate.1 ≠ 0 then (d.fate.1, d.next)
      else if f.named = true then (0, d.next.turn s fun f => { f with bytes := f.bytes.take f.lasts, there := false })
      else (0, { d.next with files := d.files.filter fun f => f.name != s })
end Go.Proofs.Ytmkjejngnahpeaa
