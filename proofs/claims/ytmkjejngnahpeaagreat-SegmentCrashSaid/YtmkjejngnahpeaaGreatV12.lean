/- The texts Eb, Ec, SegD, SegG, Yg in one. -/
import Derived.Test.YtmkjejngnahpeaaGreatV11
import Derived.Shelf.SlIter.Nil
import Derived.Shelf.SortM.Plain
import Derived.Shelf.SortM.SortNone
import Derived.Test.YtmkjejngnahpeaaGreatV9
/- Disk: all names, rising. -/
namespace Go.Proofs.YtmkjejngnahpeaaGreat
open Go Go.RowKit Go.Maps Go.Sort Go.Shelf
open Go.Proofs (encStr)

def keysL_ren : Go.Shelf.Ren := ⟨fun | 7 => 61 | 10 => 75 | n => n, fun | 23 => 63 | 26 => 9 | 3 => 79 | 28 => 125 | 0 => 0 | 27 => 124 | 33 => 96 | 4 => 4 | n => n, fun | n => n⟩
theorem keysL : Go.Proofs.SlLaysZ.n7 Tryz.prog keysL_ren := {
  mixed := by kernel_rfl
  f7 := ⟨Tryz.f61.name, by decide, Tryz.func61.trans (congrArg some (by kernel_rfl))⟩
  f10 := ⟨Tryz.f75.name, by decide, Tryz.func75.trans (congrArg some (by kernel_rfl))⟩
  t0 := Tryz.underlying0
  a0 := Tryz.isAgg0
  z0 := Tryz.sizeOf0
  v0 := Tryz.zeroValue0
  t4 := Tryz.underlying4
  a4 := Tryz.isAgg4
  z4 := Tryz.sizeOf4
  v4 := Tryz.zeroValue4
  t23 := Tryz.underlying63
  a23 := Tryz.isAgg63
  z23 := Tryz.sizeOf63
  v23 := Tryz.zeroValue63
  t26 := Tryz.underlying9
  a26 := Tryz.isAgg9
  z26 := Tryz.sizeOf9
  v26 := Tryz.zeroValue9
  t27 := Tryz.underlying124
  a27 := Tryz.isAgg124
  z27 := Tryz.sizeOf124
  v27 := Tryz.zeroValue124
  t28 := Tryz.underlying125
  a28 := Tryz.isAgg125
  z28 := Tryz.sizeOf125
  v28 := Tryz.zeroValue125
  t33 := Tryz.underlying96
  a33 := Tryz.isAgg96
  z33 := Tryz.sizeOf96
  v33 := Tryz.zeroValue96
}
def sortedL_ren : Go.Shelf.Ren := ⟨fun | 6 => 60 | 8 => 73 | 9 => 74 | 11 => 78 | 13 => 80 | 12 => 79 | 23 => 93 | 24 => 94 | 14 => 84 | 15 => 85 | 16 => 86 | 17 => 87 | 18 => 88 | 19 => 89 | 20 => 90 | 21 => 91 | 22 => 92 | 25 => 95 | 26 => 96 | 27 => 97 | 28 => 98 | 29 => 99 | 30 => 100 | 31 => 101 | n => n, fun | 26 => 9 | 28 => 125 | 24 => 93 | 0 => 0 | 3 => 3 | 37 => 106 | 48 => 117 | 50 => 116 | 4 => 4 | 40 => 153 | 39 => 152 | 45 => 158 | 5 => 5 | 9 => 9 | 51 => 162 | 55 => 166 | 57 => 168 | 58 => 169 | 33 => 96 | n => n, fun | n => n⟩
theorem sortedL : Go.Proofs.SlLaysZ.n6 Tryz.prog sortedL_ren := {
  mixed := by kernel_rfl
  f6 := ⟨Tryz.f60.name, by decide, Tryz.func60.trans (congrArg some (by kernel_rfl))⟩
  f8 := ⟨Tryz.f73.name, by decide, Tryz.func73.trans (congrArg some (by kernel_rfl))⟩
  f11 := ⟨Tryz.f78.name, by decide, Tryz.func78.trans (congrArg some (by kernel_rfl))⟩
  t0 := Tryz.underlying0
  a0 := Tryz.isAgg0
  z0 := Tryz.sizeOf0
  v0 := Tryz.zeroValue0
  t24 := Tryz.underlying93
  a24 := Tryz.isAgg93
  z24 := Tryz.sizeOf93
  v24 := Tryz.zeroValue93
  t26 := Tryz.underlying9
  a26 := Tryz.isAgg9
  z26 := Tryz.sizeOf9
  v26 := Tryz.zeroValue9
  t28 := Tryz.underlying125
  a28 := Tryz.isAgg125
  z28 := Tryz.sizeOf125
  v28 := Tryz.zeroValue125
  i26 := by kernel_rfl
}
def sortL_ren : Go.Shelf.Ren := ⟨fun | 6 => 74 | 8 => 80 | 9 => 79 | 19 => 93 | 20 => 94 | 21 => 84 | 22 => 85 | 23 => 86 | 24 => 87 | 25 => 88 | 26 => 89 | 27 => 90 | 28 => 91 | 29 => 92 | 36 => 95 | 31 => 96 | 32 => 97 | 37 => 98 | 38 => 99 | 39 => 100 | 41 => 101 | n => n, fun | 27 => 93 | 29 => 9 | 3 => 3 | 32 => 106 | 26 => 93 | 0 => 0 | 44 => 117 | 46 => 116 | 4 => 4 | 36 => 153 | 35 => 152 | 41 => 158 | 5 => 5 | 9 => 9 | 53 => 162 | 57 => 166 | 63 => 168 | 64 => 169 | n => n, fun | n => n⟩
theorem sortL : Go.Proofs.SlLaysM.n6 Tryz.prog sortL_ren := {
  mixed := by kernel_rfl
  f6 := ⟨Tryz.f74.name, by decide, Tryz.func74.trans (congrArg some (by kernel_rfl))⟩
  f8 := Tryz.func80.trans (congrArg some (by kernel_rfl))
  f9 := ⟨Tryz.f79.name, by decide, Tryz.func79.trans (congrArg some (by kernel_rfl))⟩
  f19 := Tryz.func93.trans (congrArg some (by kernel_rfl))
  f20 := Tryz.func94.trans (congrArg some (by kernel_rfl))
  f21 := ⟨Tryz.f84.name, by decide, Tryz.func84.trans (congrArg some (by kernel_rfl))⟩
  f22 := ⟨Tryz.f85.name, by decide, Tryz.func85.trans (congrArg some (by kernel_rfl))⟩
  f23 := ⟨Tryz.f86.name, by decide, Tryz.func86.trans (congrArg some (by kernel_rfl))⟩
  f24 := ⟨Tryz.f87.name, by decide, Tryz.func87.trans (congrArg some (by kernel_rfl))⟩
  f25 := ⟨Tryz.f88.name, by decide, Tryz.func88.trans (congrArg some (by kernel_rfl))⟩
  f26 := ⟨Tryz.f89.name, by decide, Tryz.func89.trans (congrArg some (by kernel_rfl))⟩
  f27 := ⟨Tryz.f90.name, by decide, Tryz.func90.trans (congrArg some (by kernel_rfl))⟩
  f28 := ⟨Tryz.f91.name, by decide, Tryz.func91.trans (congrArg some (by kernel_rfl))⟩
  f29 := ⟨Tryz.f92.name, by decide, Tryz.func92.trans (congrArg some (by kernel_rfl))⟩
  f31 := Tryz.func96.trans (congrArg some (by kernel_rfl))
  f32 := Tryz.func97.trans (congrArg some (by kernel_rfl))
  f36 := ⟨Tryz.f95.name, by decide, Tryz.func95.trans (congrArg some (by kernel_rfl))⟩
  f37 := ⟨Tryz.f98.name, by decide, Tryz.func98.trans (congrArg some (by kernel_rfl))⟩
  f38 := ⟨Tryz.f99.name, by decide, Tryz.func99.trans (congrArg some (by kernel_rfl))⟩
  f39 := ⟨Tryz.f100.name, by decide, Tryz.func100.trans (congrArg some (by kernel_rfl))⟩
  f41 := ⟨Tryz.f101.name, by decide, Tryz.func101.trans (congrArg some (by kernel_rfl))⟩
  t0 := Tryz.underlying0
  a0 := Tryz.isAgg0
  z0 := Tryz.sizeOf0
  v0 := Tryz.zeroValue0
  t3 := Tryz.underlying3
  a3 := Tryz.isAgg3
  z3 := Tryz.sizeOf3
  v3 := Tryz.zeroValue3
  t4 := Tryz.underlying4
  a4 := Tryz.isAgg4
  z4 := Tryz.sizeOf4
  v4 := Tryz.zeroValue4
  t5 := Tryz.underlying5
  a5 := Tryz.isAgg5
  z5 := Tryz.sizeOf5
  v5 := Tryz.zeroValue5
  t9 := Tryz.underlying9
  a9 := Tryz.isAgg9
  z9 := Tryz.sizeOf9
  v9 := Tryz.zeroValue9
  t26 := Tryz.underlying93
  a26 := Tryz.isAgg93
  z26 := Tryz.sizeOf93
  v26 := Tryz.zeroValue93
  t27 := Tryz.underlying93
  a27 := Tryz.isAgg93
  z27 := Tryz.sizeOf93
  v27 := Tryz.zeroValue93
  t29 := Tryz.underlying9
  a29 := Tryz.isAgg9
  z29 := Tryz.sizeOf9
  v29 := Tryz.zeroValue9
  t32 := Tryz.underlying106
  a32 := Tryz.isAgg106
  z32 := Tryz.sizeOf106
  v32 := Tryz.zeroValue106
  t35 := Tryz.underlying152
  a35 := Tryz.isAgg152
  z35 := Tryz.sizeOf152
  v35 := Tryz.zeroValue152
  t36 := Tryz.underlying153
  a36 := Tryz.isAgg153
  z36 := Tryz.sizeOf153
  v36 := Tryz.zeroValue153
  t41 := Tryz.underlying158
  a41 := Tryz.isAgg158
  z41 := Tryz.sizeOf158
  v41 := Tryz.zeroValue158
  t44 := Tryz.underlying117
  a44 := Tryz.isAgg117
  z44 := Tryz.sizeOf117
  v44 := Tryz.zeroValue117
  t46 := Tryz.underlying116
  a46 := Tryz.isAgg116
  z46 := Tryz.sizeOf116
  v46 := Tryz.zeroValue116
  t53 := Tryz.underlying162
  a53 := Tryz.isAgg162
  z53 := Tryz.sizeOf162
  v53 := Tryz.zeroValue162
  t57 := Tryz.underlying166
  a57 := Tryz.isAgg166
  z57 := Tryz.sizeOf166
  v57 := Tryz.zeroValue166
  t63 := Tryz.underlying168
  a63 := Tryz.isAgg168
  z63 := Tryz.sizeOf168
  v63 := Tryz.zeroValue168
  t64 := Tryz.underlying169
  a64 := Tryz.isAgg169
  z64 := Tryz.sizeOf169
  v64 := Tryz.zeroValue169
}

theorem sortsL (m : Nat) : AnyZ.SortsIn Tryz.prog sortedL_ren Fence.wide m :=
  ⟨fun blk off cap ss W hH hblk hsz => callsIn_wide.2 (AnyM.slices_Sort_string sortL blk off cap ss W hH hblk hsz),
   fun p cap W => callsIn_wide.2 (AnyM.slices_Sort_string_none sortL p cap W)⟩
theorem mergeSort_self {l : List (List UInt8)} (h : l.Pairwise (fun a b => leB a b = true)) : l.mergeSort leB = l := by
  have tr : ∀ a b c : List UInt8, leB a b = true → leB b c = true → leB a c = true := fun a b c h1 h2 => by simp only [leB, decide_eq_true_eq] at *; exact List.le_trans h1 h2
  have tot : ∀ a b : List UInt8, (leB a b || leB b a) = true := fun a b => by simp only [leB, Bool.or_eq_true, decide_eq_true_eq]; exact List.le_total a b
  refine List.Perm.eq_of_pairwise (le := fun a b => leB a b = true) (fun a b _ _ h1 h2 => ?_) (List.pairwise_mergeSort tr tot l) h (List.mergeSort_perm l leB)
  simp only [leB, decide_eq_true_eq] at h1 h2
  exact List.le_antisymm h1 h2
set_option maxHeartbeats 1000000 in
theorem names_b {w : World} {S : Nat → Prop} {q mb : Nat} {fv : Value} {L : List Fl} {d : Dk} (h : DiskIs w S q mb fv L d) :
    Calls Tryz.prog 36 #[.pointer (some ⟨q, 0, none⟩)] w fun e w' => ∃ v, e = .returned v ∧
      w'.ownsRow w.heap.size 9 1 v L.length (L.map fun x => encStr x.f.name) ∧ (v = .slice none 0 0 ↔ L = []) ∧ Below w.heap.size w w' := by
  obtain ⟨D0, hown, hsz, hd⟩ := h.look
  have hnd : (L.map fun x => x.f.name).Nodup := h.nodup
  have hperm := hd.perm hown (by rw [List.map_map]; exact hnd)
  rw [List.map_map] at hperm
  have hsorted : (L.map fun x => x.f.name).Pairwise (fun a b => leB a b = true) := by
    have h1 := h.sorted
    rw [← h.files, List.map_map] at h1
    exact h1.imp (fun {a b} hab => by simpa [leB] using List.le_of_lt hab)
  have hlen : L.length ≤ 4096 := by
    have h1 := h.few
    rw [← h.files, List.length_map] at h1
    exact h1
  have HP := Lib.hid (And.intro hperm (And.intro hsorted hlen))
  have c0 : w.cell? ⟨q, 0, none⟩ = some (.map (some mb)) := cell_of h.head rfl
  have H := Lib.hid h
  refine (callsIn_wide (n := 6)).1 ?_
  have hbl := hown.lt
  have hseq : SeqGives Fence.wide 2 Tryz.prog 75 #[.pointer (some ⟨w.heap.size, 0, none⟩)] encStr (fun ss => ss.Perm (strKeys D0)) (Maps.size D0) (w.alloc (.cells #[.map (some mb)] 63)) :=
    AnyZ.keys_gives (ρ := keysL_ren) { keysL with } Fence.wide _ trivial rfl (by omega) w.heap.size mb L.length D0 _ (by simp) (by simp) (by
      obtain ⟨es, clock, hb, Ft, hs, hD⟩ := hown
      exact ⟨es, clock, (Below.heap_alloc _ _ mb hbl).trans hb, Ft, hs, hD⟩)
  have cK : ∀ mb W, CallsIn Fence.wide 5 Tryz.prog 61 #[.map mb] W fun e w' => e = .returned (.func (.func 75) #[] #[.pointer (some ⟨W.heap.size, 0, none⟩)]) ∧ w' = W.alloc (.cells #[.map mb] 63) := fun mb W => AnyZ.keys_in keysL Fence.wide 5 trivial rfl mb W
  have cS := AnyZ.sorted_in sortedL Fence.wide 5 trivial trivial trivial trivial rfl (by omega) (sortsL _) (enters_of Tryz.func74 (by kernel_rfl) rfl) 75 #[.pointer (some ⟨w.heap.size, 0, none⟩)] trivial (enters_of Tryz.func75 (by kernel_rfl) rfl) _ _ (by rw [hsz]; unfold maxLen; omega) (by rw [hsz]; omega) _ hseq
  change CallsIn _ _ Tryz.prog 60 _ _ _ at cS
  have cN : CallsIn Fence.wide 5 Tryz.prog 24 #[.pointer (some ⟨q, 0, none⟩)] w fun e w' => e = .returned (.bool false) ∧ w' = w := callsIn_wide.2 (none_b H.out)
  have hfK : Fence.wide.fn 61 := trivial
  have hfS : Fence.wide.fn 60 := trivial
  have hfN : Fence.wide.fn 24 := trivial
  clear hseq hd hown h hperm hsorted
  refine callsIn_of_wp Tryz.func36 rfl trivial ?_ rfl
  simp only [Tryz.ntmps36, List.size_toArray, List.length_cons, List.length_nil, Nat.reduceAdd, Nat.reduceSub, Array.replicate_succ, Array.replicate_zero, List.push_toArray, List.append_toArray, List.nil_append, List.cons_append]
  gi_wp2_with (first
    | (gi_at_call 24; refine cN.mono ?_; rintro e w' ⟨rfl, rfl⟩)
    | (gi_at_call 61; refine (cK _ _).mono ?_; rintro e w' ⟨rfl, rfl⟩)
    | (gi_at_call 60; refine cS.mono ?_; rintro e w' ⟨v, ss, rfl, hS, hrow, hnil, hb⟩))
  go_ret
  have hpp : ss.Perm (L.map fun x => x.f.name) := hS.trans HP.out.1.symm
  have hms : (ss.mergeSort fun x y => decide (x ≤ y)) = L.map fun x => x.f.name := (mergeSort_of_perm hpp).trans (mergeSort_self HP.out.2.1)
  have hl : ss.length = L.length := by rw [hpp.length_eq, List.length_map]
  rw [hms, hl, List.map_map] at hrow
  refine ⟨v, rfl, ownsRow_base_a hrow (by simp), ?_, ((Below.refl _ _).alloc (Nat.le_refl _) _).trans (hb.mono (by simp))⟩
  rw [hnil, ← List.length_eq_zero_iff, ← List.length_eq_zero_iff, hl]
end Go.Proofs.YtmkjejngnahpeaaGreat
/- Disk: the picks of a crash: is one below zero; the next one. -/
namespace Go.Proofs.YtmkjejngnahpeaaGreat
open Go Go.Maps Go.RowKit

def intCells (l : List Int) : List Value := l.map fun x => .int .i64 x
def AllGe (l : List Int) : Prop := ∀ x ∈ l, 0 ≤ x
theorem AllGe.snoc {ps : List Int} {k : Nat} (h : k < ps.length) (ha : AllGe (ps.take k)) (hc : 0 ≤ ps[k]) : AllGe (ps.take (k + 1)) := by
  intro x hx
  rw [List.take_succ_eq_append_getElem h, List.mem_append, List.mem_singleton] at hx
  rcases hx with hx | rfl
  · exact ha x hx
  · exact hc
set_option maxHeartbeats 400000 in
theorem neg_b (x : Int) (w : World) : Calls Tryz.prog 34 #[.int .i64 x] w fun e w' => e = .returned (.bool (decide (x < 0))) ∧ w' = w := by
  go_enter Tryz.func34, Tryz.ntmps34
  go_wp2_with fail
  go_ret
  exact ⟨rfl, rfl⟩
set_option maxRecDepth 100000 in
set_option maxHeartbeats 400000 in
theorem indexInt_b {w : World} {oa : Option Addr} {n c : Nat} {ps : List Int} (hn : ps.length = n) (h : readAt w 1 (.slice oa n c) n (intCells ps)) (hm : n ≤ 1000000000) :
    Calls Tryz.prog 59 #[.slice oa n c, .func (.func 34) #[] #[]] w fun e w' => ∃ i : Int, e = .returned (.int .i64 i) ∧ (AllGe ps → i = -1) ∧ (¬ AllGe ps → 0 ≤ i) ∧ w' = w := by
  have H := Lib.hid h
  clear h
  go_enter Tryz.func59, Tryz.ntmps59
  go_wp2_with fail
  go_loop [8] (fun i => ∃ k : Nat, k ≤ n ∧ i = .int .i64 k ∧ AllGe (ps.take k)) (fun i => n - (intOf i).toNat)
  case atStart => exact ⟨0, Nat.zero_le _, rfl, fun x hx => by simp at hx⟩
  case round =>
    obtain ⟨k, hk, rfl, hge⟩ := hrel
    by_cases hlt : k < n
    · obtain ⟨g, off, rfl⟩ := H.out.addr (by omega)
      obtain ⟨x, hx⟩ : ∃ x, ps[k]'(by omega) = x := ⟨_, rfl⟩
      have hcx : w.cell? ⟨g, off + k, none⟩ = some (.int .i64 x) := by
        have h1 := H.out.cells (g := g) (off := off) rfl k (.int .i64 x) (by simp [intCells, ← hx])
        simpa [Go.WideShapes.add_plain] using h1
      have HX : Hid (0 ≤ x → AllGe (ps.take (k + 1))) := Lib.hid fun h0 => AllGe.snoc (by omega) hge (by rw [hx]; exact h0)
      have HY : Hid (x < 0 → ¬ AllGe ps) := Lib.hid fun h0 ha => by
        have := ha x (by rw [← hx]; exact List.getElem_mem _)
        omega
      clear hge hx
      by_cases h0 : x < 0
      · go_wp2_with (go_at_call 34; refine (neg_b _ _).mono ?_; rintro e w' ⟨rfl, rfl⟩)
        go_ret
        exact ⟨_, rfl, fun ha => absurd ha (HY.out h0), fun _ => by omega, rfl⟩
      · go_wp2_with (go_at_call 34; refine (neg_b _ _).mono ?_; rintro e w' ⟨rfl, rfl⟩)
        exact ⟨⟨k + 1, by omega, by simp, HX.out (by omega)⟩, by simp [intOf]; omega⟩
    · obtain rfl : k = n := by omega
      have HA : Hid (AllGe ps) := Lib.hid (by rwa [List.take_of_length_le (by omega)] at hge)
      clear hge
      go_wp2_with fail
      go_ret
      exact ⟨_, rfl, fun _ => rfl, fun h => absurd HA.out h, rfl⟩
set_option maxHeartbeats 400000 in
theorem containsInt_b {w : World} {oa : Option Addr} {n c : Nat} {ps : List Int} (hn : ps.length = n) (h : readAt w 1 (.slice oa n c) n (intCells ps)) (hm : n ≤ 1000000000) :
    Calls Tryz.prog 33 #[.slice oa n c, .func (.func 34) #[] #[]] w fun e w' => ∃ b : Bool, e = .returned (.bool b) ∧ (b = false ↔ AllGe ps) ∧ w' = w := by
  go_enter Tryz.func33, Tryz.ntmps33
  go_wp2_with fail
  refine (indexInt_b hn h hm).mono ?_
  rintro e w' ⟨i, rfl, h1, h2, rfl⟩
  obtain ⟨b, hb⟩ : ∃ b, decide ((0 : Int) ≤ i) = b := ⟨_, rfl⟩
  have HB : Hid (b = false ↔ AllGe ps) := Lib.hid (by
    rw [← hb]
    constructor
    · intro h3
      refine Classical.byContradiction fun h4 => ?_
      have := h2 h4
      simp at h3
      omega
    · intro h3
      have := h1 h3
      simp
      omega)
  clear h h1 h2
  go_wp2_with fail
  go_ret
  exact ⟨_, rfl, HB.out, rfl⟩
/-- the next pick, below 'of' -/
def nextP (of : Nat) : List Int → Nat × List Int
  | [] => (0, [])
  | p :: r => (p.toNat % of, r)
/-- block b holds the picks that are left -/
def PicksAt (w : World) (b Z : Nat) (ps : List Int) : Prop :=
  ∃ oa c, w.heap[b]? = some (.cells #[.slice oa ps.length c] 23 (0, 0)) ∧ readAt w 1 (.slice oa ps.length c) ps.length (intCells ps) ∧ (0 < ps.length → ∀ k, (Value.slice oa ps.length c).ownBlock = some k → k ≠ b ∧ k < Z)
theorem PicksAt.kept {w w' : World} {b Z : Nat} {ps : List Int} (h : PicksAt w b Z ps) (hk : ∀ k, k = b ∨ k < Z → w'.heap[k]? = w.heap[k]?) : PicksAt w' b Z ps := by
  obtain ⟨oa, c, h1, h2, h3⟩ := h
  exact ⟨oa, c, (hk b (.inl rfl)).trans h1, h2.kept (fun k _ hk' h0 => hk k (.inr (h3 h0 k hk').2)), h3⟩
theorem run_tailI (g off n cap : Nat) (W : World) : (Instr.slice 23 (.slice (some ⟨g, off, none⟩) (n + 1) cap) (some (.int .i64 1)) none none).run Tryz.prog W = .ok (.slice (if cap = 1 then some ⟨g, off, none⟩ else (some (⟨g, off, none⟩ : Addr)).map (·.add (1 * 1))) n (cap - 1)) W := by
  have hs : (sizeOf 3).run Tryz.prog W = .ok 1 W := by kernel_rfl
  have he : Tryz.prog.elem 23 = 3 := by kernel_rfl
  rw [run_slice_l (P := Tryz.prog) (w := W) 23 (some ⟨g, off, none⟩) (n + 1) cap (by rw [he]; exact Tryz.underlying23) .i64 1 (by omega) (by omega), he, hs]
  simp [Result.andThen, sliced]
set_option maxRecDepth 100000 in
set_option maxHeartbeats 400000 in
theorem next_b {w : World} {b Z : Nat} {ps : List Int} (h : PicksAt w b Z ps) (hge : AllGe ps) (of : Nat) (h1 : 0 < of) (h2 : of ≤ 1000000000) (hp : ∀ x ∈ ps, x ≤ 9223372036854775807) :
    Calls Tryz.prog 35 #[.int .i64 of, .pointer (some ⟨b, 0, none⟩)] w fun e w' => e = .returned (.int .i64 (nextP of ps).1) ∧ PicksAt w' b Z (nextP of ps).2 ∧ Only (fun k => k = b) w w' := by
  obtain ⟨oa, c, hb, hrow, hne⟩ := h
  cases ps with
  | nil =>
    have hnl : (((0 : Nat) : Int) == 0) = true := rfl
    have HB := Lib.hid (And.intro hb (And.intro hrow hne))
    have c0 : w.cell? ⟨b, 0, none⟩ = some (.slice oa 0 c) := cell_of hb rfl
    clear hb hrow hne
    go_enter Tryz.func35, Tryz.ntmps35
    go_wp2_with fail
    go_ret
    exact ⟨rfl, ⟨oa, c, HB.out.1, HB.out.2.1, HB.out.2.2⟩, Only.refl _ _⟩
  | cons p rest =>
    obtain ⟨g, off, rfl⟩ := hrow.addr (by simp)
    have f0 : w.cell? ⟨g, off, none⟩ = some (.int .i64 p) := by
      have := hrow.cells (g := g) (off := off) rfl 0 (.int .i64 p) rfl
      simpa [Go.WideShapes.add_plain] using this
    have hcap : rest.length + 1 ≤ c := hrow.cap
    have hsub := hrow.tail
    obtain ⟨oa', hfv⟩ : ∃ oa' : Option Addr, oa' = if c = 1 then some ⟨g, off, none⟩ else (some (⟨g, off, none⟩ : Addr)).map (·.add (1 * 1)) := ⟨_, rfl⟩
    obtain ⟨c', hc'⟩ : ∃ c', c' = c - 1 := ⟨_, rfl⟩
    have hown : (Value.slice oa' rest.length c').ownBlock = some g := by rw [hfv]; exact sub_own _ _ _ _ _ _
    obtain ⟨n1, hn1⟩ : ∃ n1, n1 = rest.length + 1 := ⟨_, rfl⟩
    have hsl : ∀ W : World, (Instr.slice 23 (.slice (some ⟨g, off, none⟩) n1 c) (some (.int .i64 1)) none none).run Tryz.prog W = .ok (.slice oa' rest.length c') W := fun W => by rw [hfv, hn1, hc']; exact run_tailI g off rest.length c W
    have hn0 : ((n1 : Int) == 0) = false := by simp; omega
    have hn2 : (0 : Int) < (n1 : Int) := by omega
    have hn3 : (1 : Int) ≤ (n1 : Int) := by omega
    rw [List.length_cons, ← hn1] at hb
    have c0 : w.cell? ⟨b, 0, none⟩ = some (.slice (some ⟨g, off, none⟩) n1 c) := cell_of hb rfl
    have z0 : w.frozen? ⟨b, 0, none⟩ = false := free_of hb _
    have hgb : g ≠ b ∧ g < Z := hne (by simp) g rfl
    have HSUB : Hid (readAt w 1 (.slice oa' rest.length c') rest.length (intCells rest)) := Lib.hid (by
      rw [hfv, hc']
      exact hsub)
    have HB := Lib.hid (And.intro hb (And.intro hown hgb))
    have hp0 : 0 ≤ p := hge p (by simp)
    obtain ⟨m, hm⟩ : ∃ m : Nat, p = (m : Int) := ⟨p.toNat, by omega⟩
    have hmx := hp p (by simp)
    subst hm
    have HL : Hid (g < w.heap.size) := Lib.hid (hrow.lt (by simp) g rfl)
    clear hrow hsub hfv hc' hown hn1 hb hne hcap hge hp hp0 hgb
    have hof : (of : Int) ≠ 0 := by omega
    go_enter Tryz.func35, Tryz.ntmps35
    go_wp2_with fail
    go_ret
    obtain ⟨w1, hw1⟩ : ∃ w1 : World, w1 = w.setCell ⟨b, 0, none⟩ (.slice oa' rest.length c') := ⟨_, rfl⟩
    have ho : Only (fun k => k = b) w w1 := by rw [hw1]; exact only_setCell (fun k => k = b) w b 0 _ rfl
    have hb1 : w1.heap[b]? = some (.cells #[.slice oa' rest.length c'] 23 (0, 0)) := by rw [hw1]; exact heap_setCell_here _ HB.out.1
    rw [← hw1]
    refine ⟨?_, ⟨oa', c', hb1, HSUB.out.kept (fun k _ hk _ => ?_), fun _ k hk => ?_⟩, ho⟩
    · show Ending.returned (.int .i64 ((m : Int) % (of : Int))) = _
      simp [nextP]
    · rw [HB.out.2.1] at hk
      simp only [Option.some.injEq] at hk
      subst hk
      exact ho.block _ HL.out HB.out.2.2.1
    · have hk' : (Value.slice oa' rest.length c').ownBlock = some k := hk
      rw [HB.out.2.1] at hk'
      simp only [Option.some.injEq] at hk'
      rw [← hk']; exact HB.out.2.2
theorem next_v {w : World} {b Z : Nat} {ps : List Int} (h : PicksAt w b Z ps) (hge : AllGe ps) (of : Nat) (h1 : 0 < of) (h2 : of ≤ 1000000000) (hp : ∀ x ∈ ps, x ≤ 9223372036854775807) {v : Int} (hv : v = (of : Int)) :
    Calls Tryz.prog 35 #[.int .i64 v, .pointer (some ⟨b, 0, none⟩)] w fun e w' => e = .returned (.int .i64 (nextP of ps).1) ∧ PicksAt w' b Z (nextP of ps).2 ∧ Only (fun k => k = b) w w' := by
  subst hv
  exact next_b h hge of h1 h2 hp
end Go.Proofs.YtmkjejngnahpeaaGreat
/- Segment names: segment.Parse. -/
namespace Go.Proofs.YtmkjejngnahpeaaGreat
open Go.RowKit

def isHex (c : UInt8) : Bool := (48 ≤ c && c ≤ 57) || (97 ≤ c && c ≤ 102)
def hval (c : UInt8) : Nat := if c ≤ 57 then c.toNat - 48 else c.toNat - 87
def hnum (l : List UInt8) : Nat := l.foldl (fun v c => 16 * v + hval c) 0
theorem hnum_snoc (l : List UInt8) (c : UInt8) : hnum (l ++ [c]) = 16 * hnum l + hval c := by simp [hnum]
theorem hval_lt (c : UInt8) (h : isHex c = true) : hval c < 16 := by
  simp [isHex, UInt8.le_iff_toNat_le] at h
  unfold hval
  simp only [UInt8.le_iff_toNat_le]
  split <;> (simp at *; omega)
theorem hnum_lt (l : List UInt8) : ∀ k, k ≤ l.length → (l.take k).all isHex = true → hnum (l.take k) < 16 ^ k := by
  intro k
  induction k with
  | zero => intro _ _; simp [hnum]
  | succ k ih =>
    intro hk h
    rw [List.take_succ_eq_append_getElem (by omega)] at h ⊢
    rw [List.all_append, Bool.and_eq_true] at h
    have h1 := ih (by omega) h.1
    have h2 := hval_lt _ (by simpa using h.2)
    rw [hnum_snoc, Nat.pow_succ]
    omega

/-- the digits of a name -/
def digs (l : List UInt8) : List UInt8 := l.drop (l.length - 14)
/-- is it a segment's name? -/
def okName (l : List UInt8) : Bool :=
  decide (16 ≤ l.length) && (digs l).all isHex && loggedB (l.take (l.length - 15)) && (l[l.length - 15]? == some 45) && decide (hnum (digs l) ≤ 9007199254740992)

theorem or_hex (v d : Nat) (hv : v < 4503599627370496) (hd : d < 16) : bits .or .i64 (wrap64 ((v : Int) * 16)) (d : Int) = ((16 * v + d : Nat) : Int) := by
  have hw : wrap64 ((v : Int) * 16) = ((2 ^ 4 * v : Nat) : Int) := by unfold wrap64; omega
  have hlt : 2 ^ 4 * v ||| d < 2 ^ 63 := Nat.or_lt_two_pow (by omega) (by omega)
  have hj := Nat.two_pow_add_eq_or_of_lt (i := 4) (b := d) (by omega) v
  rw [hw]
  show IntKind.i64.wrap ((BitVec.ofInt 64 ((2 ^ 4 * v : Nat) : Int) ||| BitVec.ofInt 64 (d : Int)).toNat : Nat) = _
  have key : (BitVec.ofInt 64 ((2 ^ 4 * v : Nat) : Int) ||| BitVec.ofInt 64 (d : Int)).toNat = 2 ^ 4 * v ||| d := by
    rw [BitVec.toNat_or, BitVec.toNat_ofInt, BitVec.toNat_ofInt]
    congr 1 <;> omega
  rw [key, IntKind.wrap_i64, ← hj]
  omega

theorem hexd_hval (c : UInt8) (h : isHex c = true) : hexd (hval c) = c := by
  have : ∀ n : Fin 256, isHex (UInt8.ofNat n.val) = true → hexd (hval (UInt8.ofNat n.val)) = UInt8.ofNat n.val := by decide +kernel
  have hc := this ⟨c.toNat, c.toNat_lt⟩
  simp only [UInt8.ofNat_toNat] at hc
  exact hc h
theorem hex_hnum (l : List UInt8) : ∀ k, k ≤ l.length → (l.take k).all isHex = true → hex k (hnum (l.take k)) = l.take k := by
  intro k
  induction k with
  | zero => intro _ _; simp [hex]
  | succ k ih =>
    intro hk h
    rw [List.take_succ_eq_append_getElem (by omega)] at h ⊢
    rw [List.all_append, Bool.and_eq_true] at h
    have h1 := ih (by omega) h.1
    have hc : isHex (l[k]'(by omega)) = true := by simpa using h.2
    have h2 := hval_lt _ hc
    rw [hnum_snoc, hex, show (16 * hnum (l.take k) + hval l[k]) / 16 = hnum (l.take k) by omega, show (16 * hnum (l.take k) + hval l[k]) % 16 = hval l[k] by omega, h1, hexd_hval _ hc]

theorem digs_length (l : List UInt8) (h : 16 ≤ l.length) : (digs l).length = 14 := by simp [digs]; omega
theorem digs_bad (l : List UInt8) (k : Nat) (h : 16 ≤ l.length) (hk : k < 14) (hc : isHex ((digs l).getD k 0) = false) : okName l = false := by
  have hl := digs_length l h
  have : (digs l).all isHex = false := by
    rw [List.all_eq_false]
    refine ⟨(digs l)[k]'(by omega), List.getElem_mem _, ?_⟩
    simp only [List.getD_eq_getElem?_getD, List.getElem?_eq_getElem (show k < (digs l).length by omega), Option.getD_some] at hc
    simp [hc]
  simp [okName, this]
theorem name_parts (l : List UInt8) (h : 16 ≤ l.length) : l = l.take (l.length - 15) ++ (l[l.length - 15]'(by omega)) :: digs l := by
  have h1 := List.take_append_drop (l.length - 15) l
  have h2 : l.drop (l.length - 15) = (l[l.length - 15]'(by omega)) :: l.drop (l.length - 15 + 1) := List.drop_eq_getElem_cons (by omega)
  have h3 : l.length - 15 + 1 = l.length - 14 := by omega
  rw [h2, h3] at h1
  exact h1.symm
/-- the name that the digits give back is the name itself, just where the dash stands -/
theorem back_eq (l : List UInt8) (h : 16 ≤ l.length) (hx : (digs l).all isHex = true) :
    (l.take (l.length - 15) ++ 45 :: hex 14 (hnum (digs l)) = l) ↔ l[l.length - 15]? = some 45 := by
  have hl := digs_length l h
  have hh := hex_hnum (digs l) 14 (by omega) (by rw [List.take_of_length_le (by omega)]; exact hx)
  rw [List.take_of_length_le (by omega)] at hh
  rw [hh]
  constructor
  · intro he
    have : l[l.length - 15]? = (l.take (l.length - 15) ++ 45 :: digs l)[l.length - 15]? := by rw [he]
    rw [this, List.getElem?_append_right (by simp)]
    simp
  · intro he
    have hp := name_parts l h
    rw [List.getElem?_eq_getElem (by omega)] at he
    simp only [Option.some.injEq] at he
    rw [he] at hp
    exact hp.symm

/-- what Parse answers -/
def ParsePost (s : ByteArray) (e : Ending) : Prop :=
  (okName s.data.toList = true → e = .returned (.tuple #[.string (s.extract 0 (s.size - 15)), .int .i64 ((hnum (digs s.data.toList) : Nat) : Int), .bool true])) ∧
  (okName s.data.toList = false → e = .returned (.tuple #[.string ⟨#[]⟩, .int .i64 0, .bool false]))

theorem ParsePost.bad {s : ByteArray} (h : okName s.data.toList = false) : ParsePost s (.returned (.tuple #[.string ⟨#[]⟩, .int .i64 0, .bool false])) :=
  ⟨fun h' => (by rw [h] at h'; cases h'), fun _ => rfl⟩
theorem ParsePost.good {s : ByteArray} (h : okName s.data.toList = true) {a b : Value} (ha : a = .string (s.extract 0 (s.size - 15))) (hb : b = .int .i64 ((hnum (digs s.data.toList) : Nat) : Int)) :
    ParsePost s (.returned (.tuple #[a, b, .bool true])) :=
  ⟨fun _ => by rw [ha, hb], fun h' => (by rw [h] at h'; cases h')⟩

theorem name_ok' (s bk : ByteArray) (b : Nat) (w : World) (hs : s.size ≤ 8) (hl : loggedB s.data.toList = true) (hb : b ≤ 9007199254740992) (hbk : bk = ⟨(s.data.toList ++ 45 :: hex 14 b).toArray⟩) :
    Calls Tryz.prog 13 #[.string s, .int .i64 b] w fun e w' => e = .returned (.tuple #[.string bk, .int .i64 0]) ∧ Below w.heap.size w w' := by
  subst hbk
  exact name_ok s b w hs hl hb

theorem loggedB_len (l : List UInt8) (h : loggedB l = true) : 1 ≤ l.length ∧ l.length ≤ 8 := by
  simp [loggedB] at h
  omega

set_option maxRecDepth 100000 in
set_option maxHeartbeats 1000000 in
theorem parse_long (s : ByteArray) (w : World) (hs : s.size ≤ maxLen) (h16 : 16 ≤ s.size) :
    Calls Tryz.prog 19 #[.string s] w fun e w' => ParsePost s e ∧ Below w.heap.size w w' := by
  have hs0 := hs
  unfold maxLen at hs
  have hlen : s.data.toList.length = s.size := by simp
  obtain ⟨cap, w1, hrun, hcap, hcell, hbl, hsz⟩ := run_bytes_read (P := Tryz.prog) w 9 58 5 (s.extract (s.size - 14) s.size) Tryz.underlying9 Tryz.underlying58 Tryz.underlying5
  have HX := Lib.hid hsz
  clear hsz
  have h14 : s.size - (s.size - 14) = 14 := by omega
  obtain ⟨ds, hds⟩ : ∃ ds, ds = digs s.data.toList := ⟨_, rfl⟩
  have hdl : ds.length = 14 := by rw [hds]; exact digs_length _ (by omega)
  have hcell' : ∀ j, j < 14 → w1.cell? ⟨w.heap.size, j, none⟩ = some (.int .u8 ((ds.getD j 0).toNat : Int)) := by
    intro j hj
    have hsz : (s.extract (s.size - 14) s.size).size = 14 := by simp; omega
    rw [hcell j (by omega)]
    have e : (s.extract (s.size - 14) s.size)[j]'(by omega) = ds.getD j 0 := by
      rw [hds, digs, List.getD_eq_getElem?_getD, List.getElem?_drop, hlen]
      rw [ByteArray.getElem_extract]
      rw [List.getElem?_eq_getElem (by simp; omega)]
      rfl
    rw [e]
  have HDS := Lib.hid hds
  have HDL := Lib.hid hdl
  have HLEN := Lib.hid hlen
  clear hds hcell hcap hdl hlen
  go_enter Tryz.func19, Tryz.ntmps19
  go_wp2
  go_loop [6, 23] (fun c i => ∃ k v : Nat, k ≤ 14 ∧ i = .int .i64 k ∧ c = .int .i64 v ∧ Hid ((ds.take k).all isHex = true ∧ v = hnum (ds.take k))) (fun _ i => (14 - intOf i).toNat)
  case atStart => exact ⟨0, 0, by omega, rfl, rfl, Lib.hid (by simp [hnum])⟩
  case round =>
    obtain ⟨k, v, hk, rfl, rfl, HV⟩ := hrel
    by_cases hlt : k < 14
    · obtain ⟨c, hc⟩ : ∃ c, c = ds.getD k 0 := ⟨_, rfl⟩
      have hck := hcell' k hlt
      rw [← hc] at hck
      have HC := Lib.hid hc
      clear hc hcell'
      have HT : Hid (ds.take (k + 1) = ds.take k ++ [c]) := by
        refine Lib.hid ?_
        have := HDL.out
        rw [List.take_succ_eq_append_getElem (by omega), HC.out]
        simp [List.getD_eq_getElem?_getD, List.getElem?_eq_getElem (show k < ds.length by omega)]
      have HB : Hid (v < 4503599627370496) := by
        refine Lib.hid ?_
        have h1 := hnum_lt ds k (by have := HDL.out; omega) HV.out.1
        have h2 : 16 ^ k ≤ 16 ^ 13 := Nat.pow_le_pow_right (by decide) (by omega)
        rw [HV.out.2]
        have h3 : (16 : Nat) ^ 13 = 4503599627370496 := by decide
        omega
      by_cases hc1 : 48 ≤ (c.toNat : Int) ∧ (c.toNat : Int) ≤ 57
      · obtain ⟨hc1, hc2⟩ := hc1
        have HH : Hid (isHex c = true ∧ hval c = c.toNat - 48) := Lib.hid (by simp [isHex, hval, UInt8.le_iff_toNat_le]; omega)
        go_wp2
        go_round
        case rel =>
          refine ⟨k + 1, 16 * v + hval c, by omega, by go_num, ?_, Lib.hid ⟨?_, ?_⟩⟩
          · have := or_hex v (hval c) HB.out (hval_lt c HH.out.1)
            rw [show ((hval c : Nat) : Int) = (c.toNat : Int) - 48 by rw [HH.out.2]; omega] at this
            rw [this]
          · rw [HT.out, List.all_append, HV.out.1]; simp [HH.out.1]
          · rw [HT.out, hnum_snoc, HV.out.2]
        case measure => simp [intOf]; omega
      · by_cases hc3 : 97 ≤ (c.toNat : Int) ∧ (c.toNat : Int) ≤ 102
        · obtain ⟨hc3, hc4⟩ := hc3
          have HH : Hid (isHex c = true ∧ hval c = c.toNat - 87) := Lib.hid (by simp [isHex, hval, UInt8.le_iff_toNat_le]; omega)
          clear hc1
          go_wp2
          go_round
          case rel =>
            refine ⟨k + 1, 16 * v + hval c, by omega, by go_num, ?_, Lib.hid ⟨?_, ?_⟩⟩
            · have := or_hex v (hval c) HB.out (hval_lt c HH.out.1)
              rw [show ((hval c : Nat) : Int) = (c.toNat : Int) - 97 + 10 by rw [HH.out.2]; omega] at this
              rw [this]
            · rw [HT.out, List.all_append, HV.out.1]; simp [HH.out.1]
            · rw [HT.out, hnum_snoc, HV.out.2]
          case measure => simp [intOf]; omega
        · have HF : Hid (okName s.data.toList = false) := by
            refine Lib.hid (digs_bad _ k (by rw [HLEN.out]; exact h16) hlt ?_)
            rw [← HDS.out, ← HC.out]
            simp [isHex, UInt8.le_iff_toNat_le]
            omega
          go_wp2
          all_goals (go_ret3; exact ⟨ParsePost.bad HF.out, hbl⟩)
    · obtain rfl : k = 14 := by omega
      have HP : Hid ((s.extract 0 (s.size - 14 - 1)).data.toList = s.data.toList.take (s.size - 15)) := by
        refine Lib.hid ?_
        simp
        omega
      have HALL : Hid ((digs s.data.toList).all isHex = true ∧ v = hnum (digs s.data.toList)) := by
        refine Lib.hid ?_
        have h1 := HV.out
        rw [List.take_of_length_le (by have := HDL.out; omega), HDS.out] at h1
        exact h1
      have hps : (s.extract 0 (s.size - 14 - 1)).size ≤ s.size := by simp; omega
      clear hlt hk hcell'
      by_cases hg : loggedB (s.data.toList.take (s.size - 15)) = true ∧ v ≤ 9007199254740992
      · obtain ⟨hg1, hg2⟩ := hg
        have h8 : (s.extract 0 (s.size - 14 - 1)).size ≤ 8 := by
          have := (loggedB_len _ hg1).2
          simp at this ⊢
          omega
        obtain ⟨bk, hbk⟩ : ∃ bk : ByteArray, bk = ⟨((s.extract 0 (s.size - 14 - 1)).data.toList ++ 45 :: hex 14 v).toArray⟩ := ⟨_, rfl⟩
        have hback : bk = s ↔ s.data.toList[s.data.toList.length - 15]? = some 45 := by
          rw [← back_eq _ (by rw [HLEN.out]; exact h16) HALL.out.1, ← HALL.out.2, HLEN.out, hbk, HP.out]
          constructor
          · intro h
            have := congrArg (fun b : ByteArray => b.data.toList) h
            simpa using this
          · intro h
            apply ByteArray.ext
            apply Array.ext'
            simpa using h
        have hok : okName s.data.toList = (s.data.toList[s.data.toList.length - 15]? == some 45) := by
          unfold okName
          rw [HLEN.out, HALL.out.1, hg1, ← HALL.out.2]
          simp [hg2, h16]
        have HG := Lib.hid hg1
        have HG2 := Lib.hid hg2
        have HBK := Lib.hid hbk
        by_cases hd : s.data.toList[s.data.toList.length - 15]? = some 45
        · have hbs := str_eq_true (hback.2 hd)
          have HOK : Hid (okName s.data.toList = true) := Lib.hid (by rw [hok, hd]; rfl)
          clear hback hok hd hg1 hg2 hbk
          go_wp2_with fail
          refine (name_ok' _ bk v _ h8 (by rw [HP.out]; exact HG.out) HG2.out HBK.out).mono ?_
          rintro e w' ⟨rfl, hb2⟩
          go_wp2
          go_ret3
          exact ⟨ParsePost.good (a := .string (s.extract 0 (s.size - 14 - 1))) (b := .int .i64 (v : Int)) HOK.out (by rw [show s.size - 14 - 1 = s.size - 15 by omega]) (by rw [← HALL.out.2]), hbl.trans (hb2.mono hbl.size)⟩
        · have hbs := str_eq_false (fun h => hd (hback.1 h))
          have HOK : Hid (okName s.data.toList = false) := Lib.hid (by rw [hok]; simpa using hd)
          clear hback hok hd hg1 hg2 hbk
          go_wp2_with fail
          refine (name_ok' _ bk v _ h8 (by rw [HP.out]; exact HG.out) HG2.out HBK.out).mono ?_
          rintro e w' ⟨rfl, hb2⟩
          go_wp2
          go_ret3
          exact ⟨ParsePost.bad HOK.out, hbl.trans (hb2.mono hbl.size)⟩
      · have HOK : Hid (okName s.data.toList = false) := by
          refine Lib.hid ?_
          unfold okName
          rw [HLEN.out, ← HALL.out.2]
          cases hl : loggedB (s.data.toList.take (s.size - 15)) with
          | false => simp
          | true =>
            have : ¬ v ≤ 9007199254740992 := fun h => hg ⟨hl, h⟩
            simp [this]
        have HN : Hid (loggedB (s.extract 0 (s.size - 14 - 1)).data.toList = false ∨ (v : Int) < 0 ∨ 9007199254740992 < (v : Int)) := by
          refine Lib.hid ?_
          rw [HP.out]
          cases hl : loggedB (s.data.toList.take (s.size - 15)) with
          | false => exact .inl rfl
          | true =>
            have : ¬ v ≤ 9007199254740992 := fun h => hg ⟨hl, h⟩
            exact .inr (.inr (by omega))
        clear hg
        go_wp2_with fail
        refine (name_no _ _ _ (by unfold maxLen; omega) HN.out).mono ?_
        rintro e w' ⟨rfl, rfl⟩
        go_wp2
        go_ret3
        exact ⟨ParsePost.bad HOK.out, hbl⟩

set_option maxRecDepth 100000 in
set_option maxHeartbeats 400000 in
theorem parse_any (s : ByteArray) (w : World) (hs : s.size ≤ maxLen) :
    Calls Tryz.prog 19 #[.string s] w fun e w' => ParsePost s e ∧ Below w.heap.size w w' := by
  by_cases h16 : 16 ≤ s.size
  · exact parse_long s w hs h16
  · have HOK : Hid (okName s.data.toList = false) := Lib.hid (by simp [okName]; omega)
    unfold maxLen at hs
    go_enter Tryz.func19, Tryz.ntmps19
    go_wp2
    go_ret3
    exact ⟨ParsePost.bad HOK.out, Below.refl _ _⟩
end Go.Proofs.YtmkjejngnahpeaaGreat
/- Segment names: known, and the law. -/
namespace Go.Proofs.YtmkjejngnahpeaaGreat
open Go.RowKit

theorem parse_true (s a : ByteArray) (b : Int) (w : World) (hs : s.size ≤ maxLen) (h : okName s.data.toList = true) (ha : s.extract 0 (s.size - 15) = a) (hb : ((hnum (digs s.data.toList) : Nat) : Int) = b) :
    Calls Tryz.prog 19 #[.string s] w fun e w' => e = .returned (.tuple #[.string a, .int .i64 b, .bool true]) ∧ Below w.heap.size w w' :=
  (parse_any s w hs).mono fun _ _ ⟨hp, hbl⟩ => ⟨by rw [← ha, ← hb]; exact hp.1 h, hbl⟩
theorem parse_false (s : ByteArray) (w : World) (hs : s.size ≤ maxLen) (h : okName s.data.toList = false) :
    Calls Tryz.prog 19 #[.string s] w fun e w' => e = .returned (.tuple #[.string ⟨#[]⟩, .int .i64 0, .bool false]) ∧ Below w.heap.size w w' :=
  (parse_any s w hs).mono fun _ _ ⟨hp, hbl⟩ => ⟨hp.2 h, hbl⟩
theorem create_nilS (s : ByteArray) (b st : Int) (w : World) :
    Calls Tryz.prog 7 #[.pointer none, .string s, .int .i64 b, .int .i64 st] w fun e w' => e = .returned (.tuple #[.pointer none, .int .i64 1]) ∧ w = w' := by
  go_enter Tryz.func7, Tryz.ntmps7
  go_wp2
  go_ret2
  exact ⟨rfl, rfl⟩

def pName : ByteArray := ⟨#[112, 45, 48, 48, 48, 48, 48, 48, 48, 48, 48, 48, 48, 48, 48, 102]⟩
def pLog : ByteArray := ⟨#[112]⟩
theorem pName_ok : okName pName.data.toList = true := by decide +kernel
theorem pName_cut : pName.extract 0 (pName.size - 15) = pLog := by decide +kernel
theorem pName_num : ((hnum (digs pName.data.toList) : Nat) : Int) = 15 := by decide +kernel
theorem pName_back : pName = ⟨(pLog.data.toList ++ 45 :: hex 14 15).toArray⟩ := by decide +kernel
theorem pLog_ok : loggedB pLog.data.toList = true := by decide +kernel

theorem pName_eq : (pName.toList == [112, 45, 48, 48, 48, 48, 48, 48, 48, 48, 48, 48, 48, 48, 48, 102]) = true := by rw [ByteArray.toList_eq]; decide +kernel
theorem pLog_eq : (pLog.toList == [112]) = true := by rw [ByteArray.toList_eq]; decide +kernel

set_option maxRecDepth 100000 in
set_option maxHeartbeats 400000 in
theorem known_any (w : World) : Calls Tryz.prog 4 #[] w fun e w' => e = .returned (.bool true) ∧ Below w.heap.size w w' := by
  have hp1 := pName_eq
  have hp2 := pLog_eq
  go_enter Tryz.func4, Tryz.ntmps4
  go_wp2_with fail
  refine (name_ok' pLog pName 15 _ (by decide) pLog_ok (by decide) pName_back).mono ?_
  rintro e w1 ⟨rfl, hb1⟩
  go_wp2_with fail
  refine (parse_true pName pLog 15 _ (by decide) pName_ok pName_cut pName_num).mono ?_
  rintro e w2 ⟨rfl, hb2⟩
  go_wp2_with fail
  refine (create_nilS pLog 0 1 _).mono ?_
  rintro e w' ⟨rfl, rfl⟩
  go_wp2_with fail
  go_ret
  exact ⟨rfl, hb1.trans (hb2.mono hb1.size)⟩

end Go.Proofs.YtmkjejngnahpeaaGreat
/- segment: lists of records in memory, parts of records, a segment that an append left as it was. -/
namespace Go.Proofs.YtmkjejngnahpeaaGreat
open Go Go.RowKit
attribute [local go_sem] Oper.semAt_some

/-- lists of records -/
structure ListsAt (w : World) (v : Value) (ll : List (List Rc)) : Prop where
  row : ∃ vs : List Value, vs.length = ll.length ∧ readAt w 1 v ll.length vs ∧ ∀ i (h : i < ll.length), ∃ oa c, vs[i]? = some (.slice oa ll[i].length c) ∧ RecsAt w (.slice oa ll[i].length c) ll[i] ∧ ll[i].length ≤ 9223372036854775807
theorem ListsAt.below {w w' : World} {v : Value} {ll : List (List Rc)} (h : ListsAt w v ll) (hb : Below w.heap.size w w') : ListsAt w' v ll := by
  obtain ⟨vs, h1, h2, h3⟩ := h.row
  refine ⟨vs, h1, h2.kept (fun k hk _ _ => hb.block k hk), fun i hi => ?_⟩
  obtain ⟨oa, c, g1, g2, g3⟩ := h3 i hi
  exact ⟨oa, c, g1, g2.below hb, g3⟩
theorem ListsAt.at {w : World} {oa : Option Addr} {n c i : Nat} {ll : List (List Rc)} (h : ListsAt w (.slice oa n c) ll) (hn : ll.length = n) (hi : i < ll.length) : ∃ g off ob d, oa = some ⟨g, off, none⟩ ∧ w.cell? ⟨g, off + i, none⟩ = some (.slice ob ll[i].length d) ∧ RecsAt w (.slice ob ll[i].length d) ll[i] ∧ ll[i].length ≤ 9223372036854775807 := by
  subst hn
  obtain ⟨vs, h1, h2, h3⟩ := h.row
  obtain ⟨ob, d, g1, g2, g3⟩ := h3 i hi
  obtain ⟨g, off, rfl⟩ := h2.addr (by omega)
  exact ⟨g, off, ob, d, rfl, rdCell h2 g1, g2, g3⟩
/-- a part of records -/
theorem recsCells_sub (xs : List RcV) (l m : Nat) : ((recsCells xs).drop (l * 3)).take (m * 3) = recsCells ((xs.drop l).take m) := by
  have h1 : ∀ (ys : List RcV) (m : Nat), (recsCells ys).take (m * 3) = recsCells (ys.take m) := fun ys => by
    induction ys with
    | nil => intro m; simp [recsCells]
    | cons a t ih =>
      intro m
      cases m with
      | zero => simp [recsCells]
      | succ m =>
        have e : recsCells (a :: t) = recCells a ++ recsCells t := rfl
        rw [e, List.take_succ_cons, show (m + 1) * 3 = 3 + m * 3 by omega, List.take_append, show recsCells (a :: t.take m) = recCells a ++ recsCells (t.take m) from rfl, ← ih m, List.take_of_length_le (show (recCells a).length ≤ 3 + m * 3 by show 3 ≤ _; omega), show 3 + m * 3 - (recCells a).length = m * 3 by show 3 + m * 3 - 3 = _; omega]
  have h2 : ∀ (ys : List RcV) (l : Nat), (recsCells ys).drop (l * 3) = recsCells (ys.drop l) := fun ys => by
    induction ys with
    | nil => intro l; simp [recsCells]
    | cons a t ih =>
      intro l
      cases l with
      | zero => simp
      | succ l =>
        have e : recsCells (a :: t) = recCells a ++ recsCells t := rfl
        rw [e, List.drop_succ_cons, show (l + 1) * 3 = 3 + l * 3 by omega, List.drop_append, ← ih l, List.drop_of_length_le (show (recCells a).length ≤ 3 + l * 3 by show 3 ≤ _; omega), show 3 + l * 3 - (recCells a).length = l * 3 by show 3 + l * 3 - 3 = _; omega, List.nil_append]
  rw [h2, h1]
theorem RecsIs.sub {w : World} {oa : Option Addr} {n c : Nat} {xs : List RcV} (h : RecsIs w (.slice oa n c) xs) (hn : xs.length = n) {l k : Nat} (hl : l ≤ k) (hk : k ≤ n) : RecsIs w (.slice (if c = l then oa else oa.map (·.add (l * 3))) (k - l) (c - l)) ((xs.drop l).take (k - l)) := by
  subst hn
  have h1 := h.row.sub l k c hl hk (Nat.le_trans hk h.row.cap) (Nat.le_refl _)
  rw [recsCells_sub] at h1
  have e : ((xs.drop l).take (k - l)).length = k - l := by rw [List.length_take, List.length_drop]; omega
  refine ⟨by rw [e]; exact h1, fun x hx => h.each x (List.mem_of_mem_drop (List.mem_of_mem_take hx))⟩
section
variable {w w' : World} {S S' : Nat → Prop} {s x q : Nat} {nm : ByteArray} {bn step : Nat} {sv : Value} {sp : List Sp} {bs : List Bat} {d d' : Dk}
/-- the disk has turned, the segment's file has not -/
theorem SegI.turn (h : SegI w S s x q nm bn step sv sp bs d) (hd : DiskAt w' S' q d') (hS : ∀ k, S' k → S k ∨ w.heap.size ≤ k) (ho : Only S w w') (hf : ∃ f, d'.find nm.data.toList = some f ∧ f.bytes = batsT bs) : SegI w' S' s x q nm bn step sv sp bs d' := by
  have hsl := (Array.getElem?_eq_some_iff.1 h.head).1
  have hxl := (Array.getElem?_eq_some_iff.1 h.idx.head).1
  have hvl := h.idx.row.lt
  have nS : ∀ k, k < w.heap.size → ¬ S k → ¬ S' k := fun k hk hn hw => by
    rcases hS k hw with hw | hw
    · exact hn hw
    · omega
  exact {
    head := (ho.block s hsl h.sS).trans h.head
    idx := ⟨(ho.block x hxl h.xS).trans h.idx.head, h.idx.row.kept (fun k hk => ho.block k (hvl k hk) (h.vS k hk))⟩
    spots := h.spots
    chain := h.chain
    disk := hd
    file := hf
    sS := nS s hsl h.sS
    xS := nS x hxl h.xS
    vS := fun k hk => nS k (hvl k hk) (h.vS k hk)
    sx := h.sx
    sv := h.sv
    stp := h.stp
    off := h.off
    nms := h.nms }
theorem append_full {d : Dk} {s b : List UInt8} (hf : d.fates = []) {f : F0} (h : d.find s = some f) (he : (d.append s b).1 ≠ 0) : (d.append s b).2 = d := by
  unfold Dk.append at he ⊢
  rw [h] at he ⊢
  split
  · rfl
  · rename_i h1
    rw [if_neg h1] at he
    dsimp only at he ⊢
    split
    · rfl
    · rename_i h2
      rw [if_neg h2] at he
      exact absurd (by unfold Dk.fate; rw [hf]) he
theorem append_fates {d : Dk} {s b : List UInt8} (hf : d.fates = []) : (d.append s b).2.fates = [] := by
  unfold Dk.append
  split
  · exact hf
  · split
    · exact hf
    · split
      · exact hf
      · show d.fates.tail = []
        rw [hf]
        rfl
theorem create_fates {d : Dk} {s : List UInt8} (hf : d.fates = []) : (d.create s).2.fates = [] := by
  unfold Dk.create
  split
  · exact hf
  · split
    · exact hf
    · split
      · exact hf
      · split
        · show d.fates.tail = []
          rw [hf]; rfl
        · show d.fates.tail = []
          rw [hf]; rfl
end
/-- a segment that was made behind w2 -/
structure SegJ (w2 w : World) (s x q : Nat) (nm : ByteArray) (bn step m : Nat) (bs : List Bat) : Prop where
  seg : ∃ S sv sp d, SegI w S s x q nm bn step sv sp bs d ∧ d.fates = [] ∧ (∀ k, S k → w2.heap.size ≤ k) ∧ ∀ k, sv.ownBlock = some k → w2.heap.size ≤ k
  hs : w2.heap.size ≤ s
  hx : w2.heap.size ≤ x
  below : Below w2.heap.size w2 w
  few : bs.length ≤ m
theorem SegJ.later {w2 w w' : World} {s x q : Nat} {nm : ByteArray} {bn step m : Nat} {bs : List Bat} (h : SegJ w2 w s x q nm bn step m bs) (hb : Below w.heap.size w w') : SegJ w2 w' s x q nm bn step m bs := by
  obtain ⟨S, sv, sp, d, h1, h2, h3, h4⟩ := h.seg
  exact ⟨⟨S, sv, sp, d, h1.later hb, h2, h3, h4⟩, h.hs, h.hx, h.below.trans (hb.mono h.below.size), h.few⟩
/-- what an Append leaves of it -/
theorem AppS.segJ {w2 w w' : World} {S : Nat → Prop} {s x q : Nat} {nm : ByteArray} {bn step m : Nat} {sv : Value} {sp : List Sp} {bs : List Bat} {d : Dk} {base : Int} {l : List Rc} {e : Ending} (h : AppS w S s x q nm bn step sv bs d base l e w')
    (hi : SegI w S s x q nm bn step sv sp bs d) (hf : d.fates = []) (hS : ∀ k, S k → w2.heap.size ≤ k) (hv : ∀ k, sv.ownBlock = some k → w2.heap.size ≤ k) (hs : w2.heap.size ≤ s) (hx : w2.heap.size ≤ x) (hb : Below w2.heap.size w2 w) (hm : bs.length ≤ m) :
    (∃ r, e = .returned r) ∧ ∃ bs', SegJ w2 w' s x q nm bn step (m + 1) bs' := by
  have hj : SegJ w2 w s x q nm bn step m bs := ⟨⟨S, sv, sp, d, hi, hf, hS, hv⟩, hs, hx, hb, hm⟩
  have up : ∀ {W : World} {bs' : List Bat}, SegJ w2 W s x q nm bn step m bs' → SegJ w2 W s x q nm bn step (m + 1) bs' := fun h => { h with few := by have := h.few; omega }
  have hsz := hb.size
  rcases h with ⟨-, he, hbl⟩ | ⟨-, -, he, hbl⟩ | ⟨-, -, hne, he, hd, ho⟩ | ⟨-, hbe, h0, he, S', sv', sp', hS', hsv', hi', ho⟩
  · exact ⟨⟨_, he⟩, bs, up (hj.later hbl)⟩
  · exact ⟨⟨_, he⟩, bs, up (hj.later hbl)⟩
  · obtain ⟨f, hff, hfb⟩ := hi.file
    have hdd := append_full hf hff hne
    rw [hdd] at hd
    have hw : ∀ k, Wid S w w' k → S k ∨ w.heap.size ≤ k := fun k hk => by
      rcases hk with hk | hk
      · exact .inl hk
      · exact .inr hk.1
    exact ⟨⟨_, he⟩, bs, up ⟨⟨Wid S w w', sv, sp, d, hi.turn hd hw ho ⟨f, hff, hfb⟩, hf, fun k hk => by
      rcases hk with hk | hk
      · exact hS k hk
      · have := hk.1; omega, hv⟩, hs, hx, hb.trans (ho.below (fun i hi h => by have := hS i h; omega) hb.size), hm⟩⟩
  · refine ⟨⟨_, he⟩, _, ⟨S', sv', sp', _, hi', append_fates hf, fun k hk => ?_, fun k hk => ?_⟩, hs, hx, hb.trans (ho.below (fun i hi h => ?_) hb.size), by rw [List.length_append]; simp; omega⟩
    · rcases hS' k hk with hk | hk
      · exact hS k hk
      · have := hk.1; omega
    · rcases hsv' k hk with hk | hk
      · exact hv k hk
      · omega
    · rcases h with h | h | h | h
      · have := hS i h; omega
      · omega
      · omega
      · have := hv i h; omega
end Go.Proofs.YtmkjejngnahpeaaGreat
