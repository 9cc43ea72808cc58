/- The texts Za in one. -/
import Derived.Test.YtmkjejngnahpeaaGreatV12
import Derived.Test.YtmkjejngnahpeaaGreatV13
/- segment: what a crash leaves of batches' bytes; a disk of one file (plain). -/
namespace Go.Proofs.YtmkjejngnahpeaaGreat
open Go Go.RowKit

theorem batch_torn {base : Int} {l : List Rc} {m : Nat} (hg : GoodB base l) (h0 : 0 < m) (hm : m < (batchT base l).length) : TornL ((batchT base l).take m) := by
  have hlen : ((batchT base l).take m).length = m := by rw [List.length_take]; omega
  refine ⟨fun e => by rw [e] at hlen; simp at hlen; omega, ?_⟩
  by_cases h4 : m < 4
  · exact .inl (by omega)
  · refine .inr ⟨by omega, ?_⟩
    have hp := hg.pos.2
    have hs := hg.size
    have e4 : ((batchT base l).take m).take 4 = leT (rcsSize l - 4) 4 := by
      rw [List.take_take, Nat.min_eq_left (by omega)]
      unfold batchT
      rw [List.append_assoc, List.take_append_of_le_length (by rw [leT_len]; exact Nat.le_refl _), List.take_of_length_le (by rw [leT_len]; exact Nat.le_refl _)]
    rw [e4, getT_leT 4 (rcsSize l - 4) (by omega), hlen]
    rw [batchT_len] at hm
    omega
theorem posT_cons (b : Bat) (r : List Bat) (j : Nat) : posT (b :: r) (j + 1) = (batchT b.1 b.2).length + posT r j := by
  unfold posT
  rw [List.take_succ_cons, show batsT (b :: r.take j) = batchT b.1 b.2 ++ batsT (r.take j) from rfl, List.length_append]
/-- a beginning of batches' bytes is some batches and nothing, or a torn one -/
theorem torn_split : ∀ (bs : List Bat) (m : Nat), (∀ b ∈ bs, GoodB b.1 b.2) → m ≤ (batsT bs).length →
    ∃ k t, k ≤ bs.length ∧ (batsT bs).take m = batsT (bs.take k) ++ t ∧ (t = [] ∨ TornL t) ∧ ∀ j, j ≤ bs.length → posT bs j ≤ m → j ≤ k
  | [], m, _, _ => ⟨0, [], Nat.le_refl _, by simp [batsT], .inl rfl, fun j hj _ => hj⟩
  | b :: r, m, hg, hm => by
    have hgb := hg b (List.mem_cons_self ..)
    have e : batsT (b :: r) = batchT b.1 b.2 ++ batsT r := rfl
    rw [e, List.length_append] at hm
    by_cases hb : (batchT b.1 b.2).length ≤ m
    · obtain ⟨k, t, h1, h2, h3, h4⟩ := torn_split r (m - (batchT b.1 b.2).length) (fun c hc => hg c (List.mem_cons_of_mem _ hc)) (by omega)
      refine ⟨k + 1, t, by simp; omega, ?_, h3, fun j hj hp => ?_⟩
      · rw [e, List.take_append, List.take_of_length_le hb, h2, List.take_succ_cons, show batsT (b :: r.take k) = batchT b.1 b.2 ++ batsT (r.take k) from rfl, List.append_assoc]
      · cases j with
        | zero => omega
        | succ j =>
          rw [posT_cons] at hp
          have := h4 j (by simpa using hj) (by omega)
          omega
    · refine ⟨0, (batchT b.1 b.2).take m, Nat.zero_le _, ?_, ?_, fun j hj hp => ?_⟩
      · rw [e, List.take_append_of_le_length (by omega)]
        simp [batsT]
      · by_cases h0 : m = 0
        · exact .inl (by rw [h0]; rfl)
        · exact .inr (batch_torn hgb (by omega) (by omega))
      · cases j with
        | zero => exact Nat.le_refl _
        | succ j =>
          rw [posT_cons] at hp
          omega
/-- a disk of one file, there and named -/
structure OneF (d : Dk) (s : List UInt8) (f : F0) : Prop where
  files : d.files = [f]
  fates : d.fates = []
  name : f.name = s
  there : f.there = true
  named : f.named = true
  ok : nameOk s = true
section
variable {d : Dk} {s : List UInt8} {f : F0}
theorem OneF.find (h : OneF d s f) : d.find s = some f := by
  unfold Dk.find Dk.at
  rw [h.files, List.find?_cons, show (f.name == s) = true by rw [h.name]; exact beq_self_eq_true s]
  show Option.filter _ (some f) = _
  rw [Option.filter_some, if_pos h.there]
theorem OneF.fate (h : OneF d s f) : d.fate = (0, 0) := by unfold Dk.fate; rw [h.fates]
theorem OneF.turn (h : OneF d s f) (t : F0 → F0) (hn : (t f).name = f.name) (ht : (t f).there = true) (hm : (t f).named = true) : OneF (d.next.turn s t) s (t f) :=
  ⟨by unfold Dk.turn Dk.next; dsimp only; rw [h.files, List.map_cons, List.map_nil, if_pos h.name], by unfold Dk.turn Dk.next; dsimp only; rw [h.fates]; rfl, hn.trans h.name, ht, hm, h.ok⟩
theorem OneF.append (h : OneF d s f) {b : List UInt8} (h0 : (d.append s b).1 = 0) : OneF (d.append s b).2 s { f with bytes := f.bytes ++ b } := by
  unfold Dk.append at h0 ⊢
  rw [if_neg (by rw [h.ok]; simp), h.find] at h0 ⊢
  dsimp only at h0 ⊢
  split at h0
  · cases h0
  · rename_i h2
    rw [if_neg h2, h.fate]
    exact h.turn _ rfl h.there h.named
theorem OneF.sync (h : OneF d s f) : (d.sync s).1 = 0 ∧ OneF (d.sync s).2 s { f with lasts := f.bytes.length } := by
  unfold Dk.sync
  rw [if_neg (by rw [h.ok]; simp), h.find]
  dsimp only
  rw [h.fate]
  exact ⟨rfl, h.turn _ rfl h.there h.named⟩
theorem OneF.cut (h : OneF d s f) {n : Nat} (hn : n ≤ f.bytes.length) : (d.cut s (n : Int)).1 = 0 ∧ OneF (d.cut s (n : Int)).2 s { f with bytes := f.bytes.take n, lasts := min f.lasts n } := by
  unfold Dk.cut
  rw [if_neg (by rw [h.ok]; simp), h.find]
  dsimp only
  rw [if_neg (by omega), h.fate, if_neg (by simp)]
  exact ⟨rfl, h.turn _ rfl h.there h.named⟩
theorem OneF.crash (h : OneF d s f) (hl : f.lasts ≤ f.bytes.length) (ps : List Int) : ∃ k, f.lasts + k ≤ f.bytes.length ∧ OneF (d.crash ps) s (cutF f k) := by
  refine ⟨(moreP f (keepP f ps).2).1, moreP_le f _ hl, ?_, rfl, h.name, rfl, rfl, h.ok⟩
  unfold Dk.crash crashTo
  dsimp only
  rw [h.files]
  show (crashStep ([], ps) f).1 = _
  unfold crashStep
  rw [if_neg (by unfold keepP; rw [h.there, h.named]; simp)]
  rfl
end
theorem create_one {s : List UInt8} (h : (Dk.new.create s).1 = 0) : (Dk.new.create s).2.files = [⟨s, [], 0, true, false⟩] ∧ (Dk.new.create s).2.fates = [] ∧ nameOk s = true := by
  unfold Dk.create at h ⊢
  split at h
  · cases h
  · rename_i h1
    have hok : nameOk s = true := by simpa using h1
    rw [if_neg h1]
    split at h
    · cases h
    · rename_i h2
      rw [if_neg h2]
      split at h
      · cases h
      · rename_i h3
        rw [if_neg h3]
        split at h
        · rename_i h4
          exact absurd h h4
        · rename_i h4
          rw [if_neg h4]
          exact ⟨rfl, rfl, hok⟩
theorem syncdir_one {d : Dk} {s : List UInt8} (h1 : d.files = [⟨s, [], 0, true, false⟩]) (h2 : d.fates = []) (h3 : nameOk s = true) : d.syncdir.1 = 0 ∧ OneF d.syncdir.2 s ⟨s, [], 0, true, true⟩ := by
  have hf : d.fate = (0, 0) := by unfold Dk.fate; rw [h2]
  unfold Dk.syncdir
  rw [hf, if_neg (by simp)]
  refine ⟨rfl, ?_, ?_, rfl, rfl, rfl, h3⟩
  · dsimp only
    rw [h1]
    rfl
  · show d.fates.tail = []
    rw [h2]
    rfl
end Go.Proofs.YtmkjejngnahpeaaGreat
