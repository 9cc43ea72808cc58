/- The texts Pzl in one. -/
import Derived.Test.YtlgcoaeddeiegaaGreatV20
import Derived.Test.YtlgcoaeddeiegaaGreatV21
/- law11's own example, plainly. -/
namespace Go.Proofs.YtlgcoaeddeiegaaGreat
open Go Go.RowKit

/-- a new disk with a new log's first file -/
def Dk.first (d : Dk) (log : ByteArray) : Dk := (d.create (sname log 0)).2.syncdir.2
theorem first_calm {log : ByteArray} (hlog : loggedB log.data.toList = true) {d : Dk} (hf : d.fates = []) (hn : d.files = []) : (d.create (sname log 0)).1 = 0 ∧ (d.create (sname log 0)).2.syncdir.1 = 0 ∧ Calm log Lg.zero (d.first log) := by
  have hnm : nameOk (sname log 0) = true := sname_nameOk hlog 0
  obtain ⟨a1, a2, a3⟩ := create_calm (d := d) hf hnm (fun f hm => by rw [hn] at hm; cases hm) (by rw [hn]; decide)
  obtain ⟨b1, b2, b3⟩ := syncdir_calm a2
  rw [a3, hn] at b3
  have b4 : (d.create (sname log 0)).2.syncdir.2.files = [⟨sname log 0, [], 0, true, true⟩] := b3
  refine ⟨a1, b1, ⟨b2, fun f hm => ?_, by show (d.create (sname log 0)).2.syncdir.2.files.length ≤ _; rw [b4]; exact Nat.le_refl 1, by show ((d.create (sname log 0)).2.syncdir.2.files.map _).Pairwise _; rw [b4]; simp, ?_, LgOk.zero, rfl⟩⟩
  · have hm' : f ∈ (d.create (sname log 0)).2.syncdir.2.files := hm
    rw [b4, List.mem_singleton] at hm'
    subst hm'
    exact ⟨(0, []), by simp [Lg.segs, Lg.zero], rfl⟩
  · intro s hs
    have : s = (0, []) := by simpa [Lg.segs, Lg.zero] using hs
    subst this
    refine ⟨⟨sname log 0, [], 0, true, true⟩, ?_, rfl⟩
    unfold Dk.find Dk.at Dk.first
    rw [b4]
    simp
def pName : ByteArray := ⟨#[112]⟩
def kRec : Rc := ⟨1, [97, 98, 99], [100, 101, 102, 103, 104, 105]⟩
theorem pName_ok : loggedB pName.data.toList = true := by decide
theorem kRec_fits : (fitsT [kRec, kRec]).2 = 0 ∧ (fitsT [kRec]).2 = 0 := by decide
theorem kRec_len : (batsT [(0, [kRec, kRec])]).length = 62 := by
  unfold batsT
  rw [List.flatMap_cons, List.flatMap_nil, List.append_nil]
  exact batchT_len ..
def known1 : Lg := Lg.zero.putT 40 [kRec, kRec]
def known2 : Lg := known1.putT 40 [kRec]
theorem known1_is : known1 = ⟨[], 0, [(0, [kRec, kRec])], 0, false⟩ := by
  unfold known1 Lg.putT
  rw [if_neg (by decide)]
  rfl
theorem known2_is : known2 = ⟨[(0, [(0, [kRec, kRec])])], 2, [(2, [kRec])], 2, false⟩ := by
  unfold known2 
  rw [known1_is]
  unfold Lg.putT
  rw [if_pos (by rw [kRec_len]; decide)]
  rfl
/-- the two Appends and the Sync go well -/
theorem known11_plain : ∃ d1 d2 d3, Lg.zero.appendT pName 40 (Dk.new.first pName) [kRec, kRec] = (0, known1, d1) ∧ known1.appendT pName 40 d1 [kRec] = (0, known2, d2) ∧ (known2.syncT pName d2) = (0, { known2 with stands := 3 }, d3) ∧ LgFit pName Lg.zero (Dk.new.first pName) ∧ LgFit pName known1 d1 := by
  obtain ⟨-, -, c0⟩ := first_calm pName_ok (d := Dk.new) rfl rfl
  obtain ⟨a1, c1⟩ := appendT_calm pName_ok (roll := 40) (l := [kRec, kRec]) c0 (by omega) (by decide) kRec_fits.1 (by decide)
  obtain ⟨a2, c2⟩ := appendT_calm pName_ok (roll := 40) (l := [kRec]) c1 (by omega) (by show known1.segs.length < _; rw [known1_is]; decide) kRec_fits.2 (by show (known1.fin : Int) + _ - 1 ≤ _; rw [known1_is]; decide)
  have e2 : (Lg.putT 40 (Lg.putT 40 Lg.zero [kRec, kRec]) [kRec]) = known2 := rfl
  obtain ⟨d1, hd1⟩ : ∃ x, x = (Lg.zero.appendT pName 40 (Dk.new.first pName) [kRec, kRec]).2.2 := ⟨_, rfl⟩
  rw [← hd1] at a1 a2 c1 c2
  obtain ⟨d2, hd2⟩ : ∃ x, x = ((Lg.putT 40 Lg.zero [kRec, kRec]).appendT pName 40 d1 [kRec]).2.2 := ⟨_, rfl⟩
  rw [← hd2] at a2 c2
  rw [e2] at a2 c2
  refine ⟨d1, d2, (d2.sync (sname pName known2.lb)).2, a1, a2, ?_, c0.fit, c1.fit⟩
  obtain ⟨f, hf, -⟩ := c2.fit (known2.lb, known2.lbs) (by unfold Lg.segs; simp)
  obtain ⟨s1, -, -⟩ := sync_calm c2.fates (sname_nameOk pName_ok _) hf
  unfold Lg.syncT
  rw [if_neg (by rw [c2.alive]; simp), if_neg (by rw [s1]; simp), known2_is]
  rfl
end Go.Proofs.YtlgcoaeddeiegaaGreat
