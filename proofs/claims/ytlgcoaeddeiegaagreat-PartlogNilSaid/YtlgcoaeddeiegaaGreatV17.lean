/- The texts Eb, Ec, Ed, Ee in one. -/
import Derived.Test.YtlgcoaeddeiegaaGreatV10
import Derived.Shelf.SlIter.Nil
import Derived.Shelf.SortM.Plain
import Derived.Shelf.SortM.SortNone
import Derived.Maps.OwnOps
/- Disk: all names, rising. -/
namespace Go.Proofs.YtlgcoaeddeiegaaGreat
open Go Go.RowKit Go.Maps Go.Sort Go.Shelf
open Go.Proofs (encStr)

def keysL_ren : Go.Shelf.Ren := ⟨fun | 7 => 159 | 10 => 195 | n => n, fun | 23 => 118 | 26 => 9 | 3 => 175 | 28 => 244 | 0 => 0 | 27 => 243 | 33 => 268 | 4 => 4 | n => n, fun | n => n⟩
theorem keysL : Go.Proofs.SlLaysZ.n7 Tryz.prog keysL_ren := {
  mixed := by kernel_rfl
  f7 := ⟨Tryz.f159.name, by decide, Tryz.func159.trans (congrArg some (by kernel_rfl))⟩
  f10 := ⟨Tryz.f195.name, by decide, Tryz.func195.trans (congrArg some (by kernel_rfl))⟩
  t0 := Tryz.underlying0
  a0 := Tryz.isAgg0
  z0 := Tryz.sizeOf0
  v0 := Tryz.zeroValue0
  t4 := Tryz.underlying4
  a4 := Tryz.isAgg4
  z4 := Tryz.sizeOf4
  v4 := Tryz.zeroValue4
  t23 := Tryz.underlying118
  a23 := Tryz.isAgg118
  z23 := Tryz.sizeOf118
  v23 := Tryz.zeroValue118
  t26 := Tryz.underlying9
  a26 := Tryz.isAgg9
  z26 := Tryz.sizeOf9
  v26 := Tryz.zeroValue9
  t27 := Tryz.underlying243
  a27 := Tryz.isAgg243
  z27 := Tryz.sizeOf243
  v27 := Tryz.zeroValue243
  t28 := Tryz.underlying244
  a28 := Tryz.isAgg244
  z28 := Tryz.sizeOf244
  v28 := Tryz.zeroValue244
  t33 := Tryz.underlying268
  a33 := Tryz.isAgg268
  z33 := Tryz.sizeOf268
  v33 := Tryz.zeroValue268
}
def sortedL_ren : Go.Shelf.Ren := ⟨fun | 6 => 131 | 8 => 182 | 9 => 183 | 11 => 209 | 13 => 211 | 12 => 210 | 23 => 225 | 24 => 226 | 14 => 216 | 15 => 217 | 16 => 218 | 17 => 219 | 18 => 220 | 19 => 221 | 20 => 222 | 21 => 223 | 22 => 224 | 25 => 228 | 26 => 229 | 27 => 230 | 28 => 231 | 29 => 232 | 30 => 233 | 31 => 234 | n => n, fun | 26 => 9 | 28 => 244 | 24 => 43 | 0 => 0 | 3 => 3 | 37 => 172 | 48 => 315 | 50 => 314 | 4 => 4 | 40 => 343 | 39 => 342 | 45 => 303 | 5 => 5 | 9 => 9 | 51 => 353 | 55 => 357 | 57 => 359 | 58 => 360 | 33 => 268 | n => n, fun | n => n⟩
theorem sortedL : Go.Proofs.SlLaysZ.n6 Tryz.prog sortedL_ren := {
  mixed := by kernel_rfl
  f6 := ⟨Tryz.f131.name, by decide, Tryz.func131.trans (congrArg some (by kernel_rfl))⟩
  f8 := ⟨Tryz.f182.name, by decide, Tryz.func182.trans (congrArg some (by kernel_rfl))⟩
  f11 := ⟨Tryz.f209.name, by decide, Tryz.func209.trans (congrArg some (by kernel_rfl))⟩
  t0 := Tryz.underlying0
  a0 := Tryz.isAgg0
  z0 := Tryz.sizeOf0
  v0 := Tryz.zeroValue0
  t24 := Tryz.underlying43
  a24 := Tryz.isAgg43
  z24 := Tryz.sizeOf43
  v24 := Tryz.zeroValue43
  t26 := Tryz.underlying9
  a26 := Tryz.isAgg9
  z26 := Tryz.sizeOf9
  v26 := Tryz.zeroValue9
  t28 := Tryz.underlying244
  a28 := Tryz.isAgg244
  z28 := Tryz.sizeOf244
  v28 := Tryz.zeroValue244
  i26 := by kernel_rfl
}
def sortL_ren : Go.Shelf.Ren := ⟨fun | 6 => 183 | 8 => 211 | 9 => 210 | 19 => 225 | 20 => 226 | 21 => 216 | 22 => 217 | 23 => 218 | 24 => 219 | 25 => 220 | 26 => 221 | 27 => 222 | 28 => 223 | 29 => 224 | 36 => 228 | 31 => 229 | 32 => 230 | 37 => 231 | 38 => 232 | 39 => 233 | 41 => 234 | n => n, fun | 27 => 43 | 29 => 9 | 3 => 3 | 32 => 172 | 26 => 43 | 0 => 0 | 44 => 315 | 46 => 314 | 4 => 4 | 36 => 343 | 35 => 342 | 41 => 303 | 5 => 5 | 9 => 9 | 53 => 353 | 57 => 357 | 63 => 359 | 64 => 360 | n => n, fun | n => n⟩
theorem sortL : Go.Proofs.SlLaysM.n6 Tryz.prog sortL_ren := {
  mixed := by kernel_rfl
  f6 := ⟨Tryz.f183.name, by decide, Tryz.func183.trans (congrArg some (by kernel_rfl))⟩
  f8 := Tryz.func211.trans (congrArg some (by kernel_rfl))
  f9 := ⟨Tryz.f210.name, by decide, Tryz.func210.trans (congrArg some (by kernel_rfl))⟩
  f19 := Tryz.func225.trans (congrArg some (by kernel_rfl))
  f20 := Tryz.func226.trans (congrArg some (by kernel_rfl))
  f21 := ⟨Tryz.f216.name, by decide, Tryz.func216.trans (congrArg some (by kernel_rfl))⟩
  f22 := ⟨Tryz.f217.name, by decide, Tryz.func217.trans (congrArg some (by kernel_rfl))⟩
  f23 := ⟨Tryz.f218.name, by decide, Tryz.func218.trans (congrArg some (by kernel_rfl))⟩
  f24 := ⟨Tryz.f219.name, by decide, Tryz.func219.trans (congrArg some (by kernel_rfl))⟩
  f25 := ⟨Tryz.f220.name, by decide, Tryz.func220.trans (congrArg some (by kernel_rfl))⟩
  f26 := ⟨Tryz.f221.name, by decide, Tryz.func221.trans (congrArg some (by kernel_rfl))⟩
  f27 := ⟨Tryz.f222.name, by decide, Tryz.func222.trans (congrArg some (by kernel_rfl))⟩
  f28 := ⟨Tryz.f223.name, by decide, Tryz.func223.trans (congrArg some (by kernel_rfl))⟩
  f29 := ⟨Tryz.f224.name, by decide, Tryz.func224.trans (congrArg some (by kernel_rfl))⟩
  f31 := Tryz.func229.trans (congrArg some (by kernel_rfl))
  f32 := Tryz.func230.trans (congrArg some (by kernel_rfl))
  f36 := ⟨Tryz.f228.name, by decide, Tryz.func228.trans (congrArg some (by kernel_rfl))⟩
  f37 := ⟨Tryz.f231.name, by decide, Tryz.func231.trans (congrArg some (by kernel_rfl))⟩
  f38 := ⟨Tryz.f232.name, by decide, Tryz.func232.trans (congrArg some (by kernel_rfl))⟩
  f39 := ⟨Tryz.f233.name, by decide, Tryz.func233.trans (congrArg some (by kernel_rfl))⟩
  f41 := ⟨Tryz.f234.name, by decide, Tryz.func234.trans (congrArg some (by kernel_rfl))⟩
  t0 := Tryz.underlying0
  a0 := Tryz.isAgg0
  z0 := Tryz.sizeOf0
  v0 := Tryz.zeroValue0
  t3 := Tryz.underlying3
  a3 := Tryz.isAgg3
  z3 := Tryz.sizeOf3
  v3 := Tryz.zeroValue3
  t4 := Tryz.underlying4
  a4 := Tryz.isAgg4
  z4 := Tryz.sizeOf4
  v4 := Tryz.zeroValue4
  t5 := Tryz.underlying5
  a5 := Tryz.isAgg5
  z5 := Tryz.sizeOf5
  v5 := Tryz.zeroValue5
  t9 := Tryz.underlying9
  a9 := Tryz.isAgg9
  z9 := Tryz.sizeOf9
  v9 := Tryz.zeroValue9
  t26 := Tryz.underlying43
  a26 := Tryz.isAgg43
  z26 := Tryz.sizeOf43
  v26 := Tryz.zeroValue43
  t27 := Tryz.underlying43
  a27 := Tryz.isAgg43
  z27 := Tryz.sizeOf43
  v27 := Tryz.zeroValue43
  t29 := Tryz.underlying9
  a29 := Tryz.isAgg9
  z29 := Tryz.sizeOf9
  v29 := Tryz.zeroValue9
  t32 := Tryz.underlying172
  a32 := Tryz.isAgg172
  z32 := Tryz.sizeOf172
  v32 := Tryz.zeroValue172
  t35 := Tryz.underlying342
  a35 := Tryz.isAgg342
  z35 := Tryz.sizeOf342
  v35 := Tryz.zeroValue342
  t36 := Tryz.underlying343
  a36 := Tryz.isAgg343
  z36 := Tryz.sizeOf343
  v36 := Tryz.zeroValue343
  t41 := Tryz.underlying303
  a41 := Tryz.isAgg303
  z41 := Tryz.sizeOf303
  v41 := Tryz.zeroValue303
  t44 := Tryz.underlying315
  a44 := Tryz.isAgg315
  z44 := Tryz.sizeOf315
  v44 := Tryz.zeroValue315
  t46 := Tryz.underlying314
  a46 := Tryz.isAgg314
  z46 := Tryz.sizeOf314
  v46 := Tryz.zeroValue314
  t53 := Tryz.underlying353
  a53 := Tryz.isAgg353
  z53 := Tryz.sizeOf353
  v53 := Tryz.zeroValue353
  t57 := Tryz.underlying357
  a57 := Tryz.isAgg357
  z57 := Tryz.sizeOf357
  v57 := Tryz.zeroValue357
  t63 := Tryz.underlying359
  a63 := Tryz.isAgg359
  z63 := Tryz.sizeOf359
  v63 := Tryz.zeroValue359
  t64 := Tryz.underlying360
  a64 := Tryz.isAgg360
  z64 := Tryz.sizeOf360
  v64 := Tryz.zeroValue360
}

theorem sortsL (m : Nat) : AnyZ.SortsIn Tryz.prog sortedL_ren Fence.wide m :=
  ⟨fun blk off cap ss W hH hblk hsz => callsIn_wide.2 (AnyM.slices_Sort_string sortL blk off cap ss W hH hblk hsz),
   fun p cap W => callsIn_wide.2 (AnyM.slices_Sort_string_none sortL p cap W)⟩
theorem mergeSort_self {l : List (List UInt8)} (h : l.Pairwise (fun a b => leB a b = true)) : l.mergeSort leB = l := by
  have tr : ∀ a b c : List UInt8, leB a b = true → leB b c = true → leB a c = true := fun a b c h1 h2 => by simp only [leB, decide_eq_true_eq] at *; exact List.le_trans h1 h2
  have tot : ∀ a b : List UInt8, (leB a b || leB b a) = true := fun a b => by simp only [leB, Bool.or_eq_true, decide_eq_true_eq]; exact List.le_total a b
  refine List.Perm.eq_of_pairwise (le := fun a b => leB a b = true) (fun a b _ _ h1 h2 => ?_) (List.pairwise_mergeSort tr tot l) h (List.mergeSort_perm l leB)
  simp only [leB, decide_eq_true_eq] at h1 h2
  exact List.le_antisymm h1 h2
set_option maxHeartbeats 1000000 in
theorem names_b {w : World} {S : Nat → Prop} {q mb : Nat} {fv : Value} {L : List Fl} {d : Dk} (h : DiskIs w S q mb fv L d) :
    Calls Tryz.prog 98 #[.pointer (some ⟨q, 0, none⟩)] w fun e w' => ∃ v, e = .returned v ∧
      w'.ownsRow w.heap.size 9 1 v L.length (L.map fun x => encStr x.f.name) ∧ (v = .slice none 0 0 ↔ L = []) ∧ Below w.heap.size w w' := by
  obtain ⟨D0, hown, hsz, hd⟩ := h.look
  have hnd : (L.map fun x => x.f.name).Nodup := h.nodup
  have hperm := hd.perm hown (by rw [List.map_map]; exact hnd)
  rw [List.map_map] at hperm
  have hsorted : (L.map fun x => x.f.name).Pairwise (fun a b => leB a b = true) := by
    have h1 := h.sorted
    rw [← h.files, List.map_map] at h1
    exact h1.imp (fun {a b} hab => by simpa [leB] using List.le_of_lt hab)
  have hlen : L.length ≤ 4096 := by
    have h1 := h.few
    rw [← h.files, List.length_map] at h1
    exact h1
  have HP := Lib.hid (And.intro hperm (And.intro hsorted hlen))
  have c0 : w.cell? ⟨q, 0, none⟩ = some (.map (some mb)) := cell_of h.head rfl
  have H := Lib.hid h
  refine (callsIn_wide (n := 6)).1 ?_
  have hbl := hown.lt
  have hseq : SeqGives Fence.wide 2 Tryz.prog 195 #[.pointer (some ⟨w.heap.size, 0, none⟩)] encStr (fun ss => ss.Perm (strKeys D0)) (Maps.size D0) (w.alloc (.cells #[.map (some mb)] 118)) :=
    AnyZ.keys_gives (ρ := keysL_ren) { keysL with } Fence.wide _ trivial rfl (by omega) w.heap.size mb L.length D0 _ (by simp) (by simp) (by
      obtain ⟨es, clock, hb, Ft, hs, hD⟩ := hown
      exact ⟨es, clock, (Below.heap_alloc _ _ mb hbl).trans hb, Ft, hs, hD⟩)
  have cK : ∀ mb W, CallsIn Fence.wide 5 Tryz.prog 159 #[.map mb] W fun e w' => e = .returned (.func (.func 195) #[] #[.pointer (some ⟨W.heap.size, 0, none⟩)]) ∧ w' = W.alloc (.cells #[.map mb] 118) := fun mb W => AnyZ.keys_in keysL Fence.wide 5 trivial rfl mb W
  have cS := AnyZ.sorted_in sortedL Fence.wide 5 trivial trivial trivial trivial rfl (by omega) (sortsL _) (enters_of Tryz.func183 (by kernel_rfl) rfl) 195 #[.pointer (some ⟨w.heap.size, 0, none⟩)] trivial (enters_of Tryz.func195 (by kernel_rfl) rfl) _ _ (by rw [hsz]; unfold maxLen; omega) (by rw [hsz]; omega) _ hseq
  change CallsIn _ _ Tryz.prog 131 _ _ _ at cS
  have cN : CallsIn Fence.wide 5 Tryz.prog 94 #[.pointer (some ⟨q, 0, none⟩)] w fun e w' => e = .returned (.bool false) ∧ w' = w := callsIn_wide.2 (none_b H.out)
  have hfK : Fence.wide.fn 159 := trivial
  have hfS : Fence.wide.fn 131 := trivial
  have hfN : Fence.wide.fn 94 := trivial
  clear hseq hd hown h hperm hsorted
  refine callsIn_of_wp Tryz.func98 rfl trivial ?_ rfl
  simp only [Tryz.ntmps98, List.size_toArray, List.length_cons, List.length_nil, Nat.reduceAdd, Nat.reduceSub, Array.replicate_succ, Array.replicate_zero, List.push_toArray, List.append_toArray, List.nil_append, List.cons_append]
  gi_wp2_with (first
    | (gi_at_call 94; refine cN.mono ?_; rintro e w' ⟨rfl, rfl⟩)
    | (gi_at_call 159; refine (cK _ _).mono ?_; rintro e w' ⟨rfl, rfl⟩)
    | (gi_at_call 131; refine cS.mono ?_; rintro e w' ⟨v, ss, rfl, hS, hrow, hnil, hb⟩))
  go_ret
  have hpp : ss.Perm (L.map fun x => x.f.name) := hS.trans HP.out.1.symm
  have hms : (ss.mergeSort fun x y => decide (x ≤ y)) = L.map fun x => x.f.name := (mergeSort_of_perm hpp).trans (mergeSort_self HP.out.2.1)
  have hl : ss.length = L.length := by rw [hpp.length_eq, List.length_map]
  rw [hms, hl, List.map_map] at hrow
  refine ⟨v, rfl, ownsRow_base_a hrow (by simp), ?_, ((Below.refl _ _).alloc (Nat.le_refl _) _).trans (hb.mono (by simp))⟩
  rw [hnil, ← List.length_eq_zero_iff, ← List.length_eq_zero_iff, hl]
end Go.Proofs.YtlgcoaeddeiegaaGreat
/- Disk: the picks of a crash: is one below zero; the next one. -/
namespace Go.Proofs.YtlgcoaeddeiegaaGreat
open Go Go.Maps Go.RowKit

def intCells (l : List Int) : List Value := l.map fun x => .int .i64 x
def AllGe (l : List Int) : Prop := ∀ x ∈ l, 0 ≤ x
theorem AllGe.snoc {ps : List Int} {k : Nat} (h : k < ps.length) (ha : AllGe (ps.take k)) (hc : 0 ≤ ps[k]) : AllGe (ps.take (k + 1)) := by
  intro x hx
  rw [List.take_succ_eq_append_getElem h, List.mem_append, List.mem_singleton] at hx
  rcases hx with hx | rfl
  · exact ha x hx
  · exact hc
set_option maxHeartbeats 400000 in
theorem neg_b (x : Int) (w : World) : Calls Tryz.prog 96 #[.int .i64 x] w fun e w' => e = .returned (.bool (decide (x < 0))) ∧ w' = w := by
  go_enter Tryz.func96, Tryz.ntmps96
  go_wp2_with fail
  go_ret
  exact ⟨rfl, rfl⟩
set_option maxRecDepth 100000 in
set_option maxHeartbeats 400000 in
theorem indexInt_b {w : World} {oa : Option Addr} {n c : Nat} {ps : List Int} (hn : ps.length = n) (h : readAt w 1 (.slice oa n c) n (intCells ps)) (hm : n ≤ 1000000000) :
    Calls Tryz.prog 158 #[.slice oa n c, .func (.func 96) #[] #[]] w fun e w' => ∃ i : Int, e = .returned (.int .i64 i) ∧ (AllGe ps → i = -1) ∧ (¬ AllGe ps → 0 ≤ i) ∧ w' = w := by
  have H := Lib.hid h
  clear h
  go_enter Tryz.func158, Tryz.ntmps158
  go_wp2_with fail
  go_loop [8] (fun i => ∃ k : Nat, k ≤ n ∧ i = .int .i64 k ∧ AllGe (ps.take k)) (fun i => n - (intOf i).toNat)
  case atStart => exact ⟨0, Nat.zero_le _, rfl, fun x hx => by simp at hx⟩
  case round =>
    obtain ⟨k, hk, rfl, hge⟩ := hrel
    by_cases hlt : k < n
    · obtain ⟨g, off, rfl⟩ := H.out.addr (by omega)
      obtain ⟨x, hx⟩ : ∃ x, ps[k]'(by omega) = x := ⟨_, rfl⟩
      have hcx : w.cell? ⟨g, off + k, none⟩ = some (.int .i64 x) := by
        have h1 := H.out.cells (g := g) (off := off) rfl k (.int .i64 x) (by simp [intCells, ← hx])
        simpa [Go.WideShapes.add_plain] using h1
      have HX : Hid (0 ≤ x → AllGe (ps.take (k + 1))) := Lib.hid fun h0 => AllGe.snoc (by omega) hge (by rw [hx]; exact h0)
      have HY : Hid (x < 0 → ¬ AllGe ps) := Lib.hid fun h0 ha => by
        have := ha x (by rw [← hx]; exact List.getElem_mem _)
        omega
      clear hge hx
      by_cases h0 : x < 0
      · go_wp2_with (go_at_call 96; refine (neg_b _ _).mono ?_; rintro e w' ⟨rfl, rfl⟩)
        go_ret
        exact ⟨_, rfl, fun ha => absurd ha (HY.out h0), fun _ => by omega, rfl⟩
      · go_wp2_with (go_at_call 96; refine (neg_b _ _).mono ?_; rintro e w' ⟨rfl, rfl⟩)
        exact ⟨⟨k + 1, by omega, by simp, HX.out (by omega)⟩, by simp [intOf]; omega⟩
    · obtain rfl : k = n := by omega
      have HA : Hid (AllGe ps) := Lib.hid (by rwa [List.take_of_length_le (by omega)] at hge)
      clear hge
      go_wp2_with fail
      go_ret
      exact ⟨_, rfl, fun _ => rfl, fun h => absurd HA.out h, rfl⟩
set_option maxHeartbeats 400000 in
theorem containsInt_b {w : World} {oa : Option Addr} {n c : Nat} {ps : List Int} (hn : ps.length = n) (h : readAt w 1 (.slice oa n c) n (intCells ps)) (hm : n ≤ 1000000000) :
    Calls Tryz.prog 95 #[.slice oa n c, .func (.func 96) #[] #[]] w fun e w' => ∃ b : Bool, e = .returned (.bool b) ∧ (b = false ↔ AllGe ps) ∧ w' = w := by
  go_enter Tryz.func95, Tryz.ntmps95
  go_wp2_with fail
  refine (indexInt_b hn h hm).mono ?_
  rintro e w' ⟨i, rfl, h1, h2, rfl⟩
  obtain ⟨b, hb⟩ : ∃ b, decide ((0 : Int) ≤ i) = b := ⟨_, rfl⟩
  have HB : Hid (b = false ↔ AllGe ps) := Lib.hid (by
    rw [← hb]
    constructor
    · intro h3
      refine Classical.byContradiction fun h4 => ?_
      have := h2 h4
      simp at h3
      omega
    · intro h3
      have := h1 h3
      simp
      omega)
  clear h h1 h2
  go_wp2_with fail
  go_ret
  exact ⟨_, rfl, HB.out, rfl⟩
/-- the next pick, below 'of' -/
def nextP (of : Nat) : List Int → Nat × List Int
  | [] => (0, [])
  | p :: r => (p.toNat % of, r)
/-- block b holds the picks that are left -/
def PicksAt (w : World) (b Z : Nat) (ps : List Int) : Prop :=
  ∃ oa c, w.heap[b]? = some (.cells #[.slice oa ps.length c] 38 (0, 0)) ∧ readAt w 1 (.slice oa ps.length c) ps.length (intCells ps) ∧ (0 < ps.length → ∀ k, (Value.slice oa ps.length c).ownBlock = some k → k ≠ b ∧ k < Z)
theorem PicksAt.kept {w w' : World} {b Z : Nat} {ps : List Int} (h : PicksAt w b Z ps) (hk : ∀ k, k = b ∨ k < Z → w'.heap[k]? = w.heap[k]?) : PicksAt w' b Z ps := by
  obtain ⟨oa, c, h1, h2, h3⟩ := h
  exact ⟨oa, c, (hk b (.inl rfl)).trans h1, h2.kept (fun k _ hk' h0 => hk k (.inr (h3 h0 k hk').2)), h3⟩
theorem run_tailI (g off n cap : Nat) (W : World) : (Instr.slice 38 (.slice (some ⟨g, off, none⟩) (n + 1) cap) (some (.int .i64 1)) none none).run Tryz.prog W = .ok (.slice (if cap = 1 then some ⟨g, off, none⟩ else (some (⟨g, off, none⟩ : Addr)).map (·.add (1 * 1))) n (cap - 1)) W := by
  have hs : (sizeOf 3).run Tryz.prog W = .ok 1 W := by kernel_rfl
  have he : Tryz.prog.elem 38 = 3 := by kernel_rfl
  rw [run_slice_l (P := Tryz.prog) (w := W) 38 (some ⟨g, off, none⟩) (n + 1) cap (by rw [he]; exact Tryz.underlying38) .i64 1 (by omega) (by omega), he, hs]
  simp [Result.andThen, sliced]
set_option maxRecDepth 100000 in
set_option maxHeartbeats 400000 in
theorem next_b {w : World} {b Z : Nat} {ps : List Int} (h : PicksAt w b Z ps) (hge : AllGe ps) (of : Nat) (h1 : 0 < of) (h2 : of ≤ 1000000000) (hp : ∀ x ∈ ps, x ≤ 9223372036854775807) :
    Calls Tryz.prog 97 #[.int .i64 of, .pointer (some ⟨b, 0, none⟩)] w fun e w' => e = .returned (.int .i64 (nextP of ps).1) ∧ PicksAt w' b Z (nextP of ps).2 ∧ Only (fun k => k = b) w w' := by
  obtain ⟨oa, c, hb, hrow, hne⟩ := h
  cases ps with
  | nil =>
    have hnl : (((0 : Nat) : Int) == 0) = true := rfl
    have HB := Lib.hid (And.intro hb (And.intro hrow hne))
    have c0 : w.cell? ⟨b, 0, none⟩ = some (.slice oa 0 c) := cell_of hb rfl
    clear hb hrow hne
    go_enter Tryz.func97, Tryz.ntmps97
    go_wp2_with fail
    go_ret
    exact ⟨rfl, ⟨oa, c, HB.out.1, HB.out.2.1, HB.out.2.2⟩, Only.refl _ _⟩
  | cons p rest =>
    obtain ⟨g, off, rfl⟩ := hrow.addr (by simp)
    have f0 : w.cell? ⟨g, off, none⟩ = some (.int .i64 p) := by
      have := hrow.cells (g := g) (off := off) rfl 0 (.int .i64 p) rfl
      simpa [Go.WideShapes.add_plain] using this
    have hcap : rest.length + 1 ≤ c := hrow.cap
    have hsub := hrow.tail
    obtain ⟨oa', hfv⟩ : ∃ oa' : Option Addr, oa' = if c = 1 then some ⟨g, off, none⟩ else (some (⟨g, off, none⟩ : Addr)).map (·.add (1 * 1)) := ⟨_, rfl⟩
    obtain ⟨c', hc'⟩ : ∃ c', c' = c - 1 := ⟨_, rfl⟩
    have hown : (Value.slice oa' rest.length c').ownBlock = some g := by rw [hfv]; exact sub_own _ _ _ _ _ _
    obtain ⟨n1, hn1⟩ : ∃ n1, n1 = rest.length + 1 := ⟨_, rfl⟩
    have hsl : ∀ W : World, (Instr.slice 38 (.slice (some ⟨g, off, none⟩) n1 c) (some (.int .i64 1)) none none).run Tryz.prog W = .ok (.slice oa' rest.length c') W := fun W => by rw [hfv, hn1, hc']; exact run_tailI g off rest.length c W
    have hn0 : ((n1 : Int) == 0) = false := by simp; omega
    have hn2 : (0 : Int) < (n1 : Int) := by omega
    have hn3 : (1 : Int) ≤ (n1 : Int) := by omega
    rw [List.length_cons, ← hn1] at hb
    have c0 : w.cell? ⟨b, 0, none⟩ = some (.slice (some ⟨g, off, none⟩) n1 c) := cell_of hb rfl
    have z0 : w.frozen? ⟨b, 0, none⟩ = false := free_of hb _
    have hgb : g ≠ b ∧ g < Z := hne (by simp) g rfl
    have HSUB : Hid (readAt w 1 (.slice oa' rest.length c') rest.length (intCells rest)) := Lib.hid (by
      rw [hfv, hc']
      exact hsub)
    have HB := Lib.hid (And.intro hb (And.intro hown hgb))
    have hp0 : 0 ≤ p := hge p (by simp)
    obtain ⟨m, hm⟩ : ∃ m : Nat, p = (m : Int) := ⟨p.toNat, by omega⟩
    have hmx := hp p (by simp)
    subst hm
    have HL : Hid (g < w.heap.size) := Lib.hid (hrow.lt (by simp) g rfl)
    clear hrow hsub hfv hc' hown hn1 hb hne hcap hge hp hp0 hgb
    have hof : (of : Int) ≠ 0 := by omega
    go_enter Tryz.func97, Tryz.ntmps97
    go_wp2_with fail
    go_ret
    obtain ⟨w1, hw1⟩ : ∃ w1 : World, w1 = w.setCell ⟨b, 0, none⟩ (.slice oa' rest.length c') := ⟨_, rfl⟩
    have ho : Only (fun k => k = b) w w1 := by rw [hw1]; exact only_setCell (fun k => k = b) w b 0 _ rfl
    have hb1 : w1.heap[b]? = some (.cells #[.slice oa' rest.length c'] 38 (0, 0)) := by rw [hw1]; exact heap_setCell_here _ HB.out.1
    rw [← hw1]
    refine ⟨?_, ⟨oa', c', hb1, HSUB.out.kept (fun k _ hk _ => ?_), fun _ k hk => ?_⟩, ho⟩
    · show Ending.returned (.int .i64 ((m : Int) % (of : Int))) = _
      simp [nextP]
    · rw [HB.out.2.1] at hk
      simp only [Option.some.injEq] at hk
      subst hk
      exact ho.block _ HL.out HB.out.2.2.1
    · have hk' : (Value.slice oa' rest.length c').ownBlock = some k := hk
      rw [HB.out.2.1] at hk'
      simp only [Option.some.injEq] at hk'
      rw [← hk']; exact HB.out.2.2
theorem next_v {w : World} {b Z : Nat} {ps : List Int} (h : PicksAt w b Z ps) (hge : AllGe ps) (of : Nat) (h1 : 0 < of) (h2 : of ≤ 1000000000) (hp : ∀ x ∈ ps, x ≤ 9223372036854775807) {v : Int} (hv : v = (of : Int)) :
    Calls Tryz.prog 97 #[.int .i64 v, .pointer (some ⟨b, 0, none⟩)] w fun e w' => e = .returned (.int .i64 (nextP of ps).1) ∧ PicksAt w' b Z (nextP of ps).2 ∧ Only (fun k => k = b) w w' := by
  subst hv
  exact next_b h hge of h1 h2 hp
end Go.Proofs.YtlgcoaeddeiegaaGreat
/- Disk: what a crash leaves. -/
namespace Go.Proofs.YtlgcoaeddeiegaaGreat
open Go Go.Maps Go.RowKit
open Go.Proofs (encStr)

def keepP (f : F0) (ps : List Int) : Bool × List Int := if f.there && f.named then (true, ps) else (decide ((nextP 2 ps).1 ≠ 0), (nextP 2 ps).2)
def moreP (f : F0) (ps : List Int) : Nat × List Int := if f.there && decide (f.lasts < f.bytes.length) then nextP (f.bytes.length - f.lasts + 1) ps else (0, ps)
def cutF (f : F0) (k : Nat) : F0 := ⟨f.name, f.bytes.take (f.lasts + k), f.lasts + k, true, true⟩
def crashStep (s : List F0 × List Int) (f : F0) : List F0 × List Int :=
  if (keepP f s.2).1 = false then (s.1, (keepP f s.2).2) else (s.1 ++ [cutF f (moreP f (keepP f s.2).2).1], (moreP f (keepP f s.2).2).2)
def crashTo (l : List F0) (ps : List Int) : List F0 × List Int := l.foldl crashStep ([], ps)
def Dk.crash (d : Dk) (ps : List Int) : Dk := ⟨(crashTo d.files ps).1, [], 0⟩
def PicksOk (ps : List Int) : Prop := ∀ x ∈ ps, 0 ≤ x ∧ x ≤ 9223372036854775807
theorem nextP_ok (of : Nat) {ps : List Int} (h : PicksOk ps) : PicksOk (nextP of ps).2 := by
  cases ps with
  | nil => exact h
  | cons p r => exact fun x hx => h x (List.mem_cons_of_mem _ hx)
theorem keepP_ok (f : F0) {ps : List Int} (h : PicksOk ps) : PicksOk (keepP f ps).2 := by
  unfold keepP
  split
  · exact h
  · exact nextP_ok _ h
theorem moreP_ok (f : F0) {ps : List Int} (h : PicksOk ps) : PicksOk (moreP f ps).2 := by
  unfold moreP
  split
  · exact nextP_ok _ h
  · exact h
theorem nextP_lt (of : Nat) (ps : List Int) (h : 0 < of) : (nextP of ps).1 < of := by
  cases ps with
  | nil => exact h
  | cons p r => exact Nat.mod_lt _ h
theorem moreP_le (f : F0) (ps : List Int) (h : f.lasts ≤ f.bytes.length) : f.lasts + (moreP f ps).1 ≤ f.bytes.length := by
  unfold moreP
  split
  · have := nextP_lt (f.bytes.length - f.lasts + 1) ps (by omega)
    omega
  · simpa using h
theorem crashTo_snoc (l : List F0) (f : F0) (ps : List Int) : crashTo (l ++ [f]) ps = crashStep (crashTo l ps) f := by simp [crashTo]
theorem crashStep_names (s : List F0 × List Int) (f : F0) : ∀ g ∈ (crashStep s f).1, g ∈ s.1 ∨ g.name = f.name := fun g hg => by
  unfold crashStep at hg
  split at hg
  · exact .inl hg
  · rcases List.mem_append.1 hg with h | h
    · exact .inl h
    · simp only [List.mem_singleton] at h
      exact .inr (by rw [h]; rfl)
theorem crashTo_names (ps : List Int) : ∀ (l : List F0) (s : List F0 × List Int) (g : F0), g ∈ (l.foldl crashStep s).1 → g ∈ s.1 ∨ ∃ f ∈ l, g.name = f.name
  | [], s, g, hg => .inl hg
  | f :: r, s, g, hg => by
    rcases crashTo_names ps r (crashStep s f) g hg with h | ⟨f', hf', he⟩
    · rcases crashStep_names s f g h with h | h
      · exact .inl h
      · exact .inr ⟨f, by simp, h⟩
    · exact .inr ⟨f', by simp [hf'], he⟩
theorem DiskIs.lookup1_some {w : World} {S : Nat → Prop} {q mb : Nat} {fv : Value} {L : List Fl} {d : Dk} (h : DiskIs w S q mb fv L d) {x : Fl} (hx : x ∈ L) {nm : ByteArray} (hs : nm.size ≤ maxLen) (hn : x.f.name = nm.data.toList) :
    (Instr.lookup 118 (.map (some mb)) (.string nm) false).run Tryz.prog w = .ok (.pointer (some ⟨x.blk, 0, none⟩)) w := by
  obtain ⟨D, ho, hsz, hd⟩ := h.look
  have hz : (zeroValue 175).run Tryz.prog w = .ok (.pointer none) w := by kernel_rfl
  obtain ⟨v, ps, hrun, hv⟩ := ho.lookup (t := 118) (string_keyed Tryz.underlying9) Tryz.underlying118 hz ptrElem_nil (WideMaps.keyOf_string_mk (P := Tryz.prog) Tryz.underlying9 hs)
  have hm : (x.f.name, x.blk) ∈ L.map fun x => (x.f.name, x.blk) := List.mem_map_of_mem (f := fun x => (x.f.name, x.blk)) hx
  have hg := hd.get _ hm .nil
  rw [← hn] at hv
  rw [hg] at hv
  obtain rfl := ptrElem_inv hv
  exact hrun
/-- both disks, beside the picks -/
structure CrashPre (w3 wr : World) (S : Nat → Prop) (q mb : Nat) (fv : Value) (L : List Fl) (d : Dk) (pb Z : Nat) (fl : List F0) : Prop where
  old : DiskIs wr S q mb fv L d
  only : Only (fun k => k = pb ∨ k = pb + 1) w3 wr
  new : ∃ Lo, DiskIs wr (fun k => (k = pb + 2 ∨ k = pb + 1 ∨ w3.heap.size ≤ k) ∧ k < wr.heap.size) (pb + 2) (pb + 1) (.slice none 0 0) Lo ⟨fl, [], 0⟩
  low : ∀ k, S k → k < Z
  z : Z < pb
  size : pb + 3 ≤ w3.heap.size
theorem CrashPre.pick {w3 wr wx : World} {S : Nat → Prop} {q mb : Nat} {fv : Value} {L : List Fl} {d : Dk} {pb Z : Nat} {fl : List F0} (h : CrashPre w3 wr S q mb fv L d pb Z fl) (ho : Only (fun k => k = pb) wr wx) : CrashPre w3 wx S q mb fv L d pb Z fl where
  old := h.old.only ho (fun k hk he => by
    have h1 := h.low k hk
    have h2 := h.z
    omega)
  only := h.only.trans ho (fun i _ hi => .inl hi)
  new := by
    obtain ⟨Lo, hL⟩ := h.new
    have h1 := h.size
    exact ⟨Lo, (hL.only ho (fun k hk he => by have := hk.1; omega)).wider (fun k hk => ⟨hk.1, Nat.lt_of_lt_of_le hk.2 ho.size⟩) (fun k hk => hk.2)⟩
  low := h.low
  z := h.z
  size := h.size
theorem CrashPre.drew {w3 wr : World} {S : Nat → Prop} {q mb : Nat} {fv : Value} {L : List Fl} {d : Dk} {pb Z : Nat} {fl : List F0} (h : CrashPre w3 wr S q mb fv L d pb Z fl) : CrashPre w3 wr.drew S q mb fv L d pb Z fl := h.pick (only_drew (Only.refl _ _))
/-- a file is put into the new disk -/
theorem CrashPre.add {w3 wr w5 w6 : World} {S : Nat → Prop} {q mb : Nat} {fv : Value} {L : List Fl} {d : Dk} {pb Z : Nat} {fl : List F0} (h : CrashPre w3 wr S q mb fv L d pb Z fl) {g : F0} {v : Value} {D : DataW Unit} {n' : Nat} {Lo : List Fl}
    (hLo : DiskIs wr (fun k => (k = pb + 2 ∨ k = pb + 1 ∨ w3.heap.size ≤ k) ∧ k < wr.heap.size) (pb + 2) (pb + 1) (.slice none 0 0) Lo ⟨fl, [], 0⟩) (hd : Dic D (Lo.map fun x => (x.f.name, x.blk)))
    (hnb : NewBytes wr w5 v g.bytes) (hg : (w5.alloc (.cells #[v, .int .i64 g.lasts, .bool g.there, .bool g.named] 179)).grownBy w6 (some (pb + 1)))
    (hm : w6.ownsMap Tryz.prog 9 ptrElem (pb + 1) n' (D.put (.string g.name) (.lit (.int .i64 w5.heap.size)))) (hl : g.lasts ≤ g.bytes.length) (hsz : g.bytes.length ≤ 16777216) (hnm : nameOk g.name = true) (hlt : ∀ f ∈ fl, f.name < g.name) (hfew : fl.length < 4096) :
    CrashPre w3 w6 S q mb fv L d pb Z (fl ++ [g]) := by
  obtain ⟨hb, hown, hbl⟩ := hnb
  obtain ⟨w5a, hw5a⟩ : ∃ w5a : World, w5a = w5.alloc (.cells #[v, .int .i64 g.lasts, .bool g.there, .bool g.named] 179) := ⟨_, rfl⟩
  rw [← hw5a] at hg
  have hc5 : w5a.heap[w5.heap.size]? = some (.cells #[v, .int .i64 g.lasts, .bool g.there, .bool g.named] 179 (0, 0)) := by rw [hw5a]; exact alloc_cells _ _ _
  have hs5 : w5a.heap.size = w5.heap.size + 1 := by rw [hw5a]; simp
  have ho1 : Only (fun k => k = pb + 1) wr w5 := Only.of_below hbl (Nat.le_refl _) _
  have ho2 : Only (fun k => k = pb + 1) wr w5a := ho1.trans (by rw [hw5a]; exact only_alloc (fun k => k = pb + 1) _ _) (fun _ _ h => h)
  have ho : Only (fun k => k = pb + 1) wr w6 := ho2.trans (Only.of_grown (S := fun k => k = pb + 1) hg (fun k hk => by simp at hk; exact hk.symm)) (fun _ _ h => h)
  have hmb : pb + 1 < wr.heap.size := hLo.low (pb + 1) (hLo.foot (pb + 1) (by simp [diskBlocks]))
  have hsz1 := hbl.size
  have hsz2 := hg.size
  have hfl : Lo.map (·.f) = fl := hLo.files
  have hkeep : ∀ k, k < w5a.heap.size → k ≠ pb + 1 → w6.heap[k]? = w5a.heap[k]? := fun k h1 h2 => hg.block k h1 (by simp; omega)
  have hrow : rowAt w6 5 1 v g.bytes.length (byteCells g.bytes) := by
    have h1 : rowAt w5a 5 1 v g.bytes.length (byteCells g.bytes) := hb.kept (fun k hk => by rw [hw5a]; exact Below.heap_alloc _ _ k (hb.lt k hk))
    exact h1.kept (fun k hk => hkeep k (h1.lt k hk) (by have := hown k hk; omega))
  have h6 := DiskIs.file_add (A := Lo) (B := []) (x' := ⟨g, w5.heap.size, v⟩) (fs := fl ++ [g]) (by simpa using hLo) ho
    ⟨(hkeep w5.heap.size (by omega) (by omega)).trans hc5, hrow, hl, hsz⟩ hm
    (hd.put g.name w5.heap.size (fun f => by
      simp only [List.map_append, List.map_cons, List.map_nil, List.mem_append, List.mem_cons, List.not_mem_nil, or_false]
      exact or_comm) (fun f hf => by
      obtain ⟨y, hy, rfl⟩ := List.mem_map.1 hf
      have h1 := hlt y.f (by rw [← hfl]; exact List.mem_map_of_mem hy)
      exact fun he => by
        have he' : y.f.name = g.name := he
        rw [he'] at h1
        exact List.lt_irrefl _ h1))
    (fun k hk => by
      simp only [Fl.blocks, List.mem_cons, Option.mem_toList] at hk
      rcases hk with rfl | hk
      · show wr.heap.size ≤ w5.heap.size ∧ w5.heap.size < w6.heap.size
        exact ⟨hsz1, by omega⟩
      · have h1 := hown k hk
        have h2 := hb.lt k hk
        exact ⟨h1, by omega⟩)
    (by
      cases hv : v.ownBlock with
      | none => simp [Fl.blocks, hv]
      | some k =>
        have h2 := hb.lt k hv
        simp [Fl.blocks, hv]
        omega)
    (by simp [hfl]) (by
      rw [List.map_append, List.pairwise_append]
      refine ⟨hLo.sorted, by simp, fun a ha b hb' => ?_⟩
      obtain ⟨y, hy, rfl⟩ := List.mem_map.1 ha
      simp only [List.map_cons, List.map_nil, List.mem_singleton] at hb'
      rw [hb']
      exact hlt y hy) hnm hfew
  have h1 := h.size
  exact {
    old := h.old.only ho (fun k hk he => by
      have h1 := h.low k hk
      have h2 := h.z
      omega)
    only := h.only.trans ho (fun i _ hi => .inr hi)
    new := ⟨_, h6.wider (fun k hk => by
      have h3 := h.only.size
      rcases hk with hk | hk
      · exact ⟨hk.1, Nat.lt_of_lt_of_le hk.2 ho.size⟩
      · exact ⟨by omega, hk.2⟩) (fun k hk => hk.2)⟩
    low := h.low
    z := h.z
    size := h.size }
theorem take_files {L : List Fl} {d : Dk} {j : Nat} (hf : L.map (·.f) = d.files) (hj : j < L.length) : d.files.take (j + 1) = d.files.take j ++ [L[j].f] := by
  rw [← hf, List.take_succ_eq_append_getElem (by simpa using hj)]
  simp
theorem keep_eq (P : List Int) : ((((nextP 2 P).1 : Nat) : Int) == 0) = !(decide ((nextP 2 P).1 ≠ 0)) := by
  by_cases h : (nextP 2 P).1 = 0 <;> simp [h]
theorem add_only {wr w5 w6 : World} {b : Nat} {v : Value} {l : List UInt8} {o : Obj} (hnb : NewBytes wr w5 v l) (hg : (w5.alloc o).grownBy w6 (some b)) : Only (fun k => k = b) wr w6 :=
  ((Only.of_below hnb.2.2 (Nat.le_refl _) _).trans (only_alloc (fun k => k = b) w5 o) (fun _ _ h => h)).trans (Only.of_grown (S := fun k => k = b) hg (fun k hk => by simp at hk; exact hk.symm)) (fun _ _ h => h)
theorem crashTo_length (ps : List Int) : ∀ (l : List F0) (s : List F0 × List Int), (l.foldl crashStep s).1.length ≤ s.1.length + l.length
  | [], s => by simp
  | f :: r, s => by
    have h1 := crashTo_length ps r (crashStep s f)
    have h2 : (crashStep s f).1.length ≤ s.1.length + 1 := by
      unfold crashStep
      split
      · simp
      · simp
    simp only [List.foldl_cons, List.length_cons]
    omega
theorem crash_lt {d : Dk} {j : Nat} {f : F0} {ps : List Int} (hs : (d.files.map (·.name)).Pairwise (· < ·)) (ht : d.files.take (j + 1) = d.files.take j ++ [f]) : ∀ g ∈ (crashTo (d.files.take j) ps).1, g.name < f.name := fun g hg => by
  rcases crashTo_names ps _ _ g hg with h | ⟨f', hf', he⟩
  · cases h
  · have h1 : ((d.files.take (j + 1)).map (·.name)).Pairwise (· < ·) := hs.sublist ((List.take_sublist _ _).map _)
    rw [ht, List.map_append, List.pairwise_append] at h1
    rw [he]
    exact h1.2.2 _ (List.mem_map_of_mem hf') _ (by simp)
theorem run_take (oa : Option Addr) (N c E : Nat) (h2 : E ≤ c) (h0 : oa.map (fun x => x.add 0) = oa) (W : World) : (Instr.slice 39 (.slice oa N c) none (some (.int .i64 (E : Int))) none).run Tryz.prog W = .ok (.slice oa E c) W := by
  have hs : (sizeOf 5).run Tryz.prog W = .ok 1 W := by kernel_rfl
  have he : Tryz.prog.elem 39 = 5 := by kernel_rfl
  rw [run_slice_h (P := Tryz.prog) (w := W) 39 oa N c (by rw [he]; exact Tryz.underlying39) .i64 E (by omega) (by omega), he, hs]
  simp [Result.andThen, sliced, h0]
theorem step_update {H : Type} {P : Program} (w : World) {ops : Array Oper} {o : Oper} {a : Act} {K : Act → World → Prop} {Q : Exit → Act → World → Prop} {E : Prop}
    (hg : o.guard = none) (m x v : Operand) (t : TypeId) (hop : o.op = Op.mapUpdate t m x v)
    (k e : TypeId) (K0 : Keyed P k) (ht : P.underlying t = some (.map k e)) (R : Value → Option (DataW H × List MemPlace)) (b n : Nat) (D : DataW H)
    (hm : a.eval m = .map (some b)) (hown : w.ownsMap P k R b n D) (hn : n < maxLen) (key val : Value) (kl : Lit) (hx : a.eval x = key) (hv : a.eval v = val) (hkey : keyOf P k key = some kl)
    (d : DataW H) (ps : List MemPlace) (hval : R val = some (d, ps))
    (hK : ∀ w', w'.ownsMap P k R b (n + 1) (D.put kl d) → w.grownBy w' (some b) → K (a.put o.dst undef) w') :
    if Region.wanted o (yielded ops a.tmps) = true then Oper.wp P o a w K Q else E := by
  have hw : Region.wanted o (yielded ops a.tmps) = true := by simp [Region.wanted, hg]
  rw [if_pos hw]
  obtain ⟨w', hrun, r1, r2⟩ := hown.update K0 ht hn hkey hval
  unfold Oper.wp
  simp [execOp, hop, hm, hx, hv, hrun, Result.andThen]
  exact hK w' r1 r2
/-- what stands at the head of each round -/
structure CrashInv (w3 wr : World) (S : Nat → Prop) (q mb : Nat) (fv : Value) (L : List Fl) (d : Dk) (pb Z j : Nat) (ps : List Int) : Prop where
  pre : CrashPre w3 wr S q mb fv L d pb Z (crashTo (d.files.take j) ps).1
  picks : PicksAt wr pb Z (crashTo (d.files.take j) ps).2
  ok : PicksOk (crashTo (d.files.take j) ps).2
def CrashIs (w : World) (d : Dk) (ps : List Int) (e : Ending) (w' : World) : Prop :=
  (¬ AllGe ps ∧ e = .returned (.tuple #[.pointer none, .int .i64 2]) ∧ Below w.heap.size w w') ∨
  (AllGe ps ∧ ∃ q, e = .returned (.tuple #[.pointer (some ⟨q, 0, none⟩), .int .i64 0]) ∧ DiskAt w' (fun k => w.heap.size ≤ k ∧ k < w'.heap.size) q (d.crash ps) ∧ Below w.heap.size w w')
end Go.Proofs.YtlgcoaeddeiegaaGreat
/- Disk: Crash. -/
namespace Go.Proofs.YtlgcoaeddeiegaaGreat
open Go Go.Maps Go.RowKit
open Go.Proofs (encStr)

set_option maxRecDepth 100000 in
set_option maxHeartbeats 1000000 in
theorem crash_b {w : World} {S : Nat → Prop} {q : Nat} {d : Dk} (h : DiskAt w S q d) (oa : Option Addr) (c : Nat) (ps : List Int) (hp : readAt w 1 (.slice oa ps.length c) ps.length (intCells ps)) (hpl : ps.length ≤ 1000000000) (hpm : ∀ x ∈ ps, x ≤ 9223372036854775807) :
    Calls Tryz.prog 29 #[.pointer (some ⟨q, 0, none⟩), .agg #[.slice oa ps.length c]] w fun e w' => CrashIs w d ps e w' := by
  obtain ⟨mb, fv, L, h⟩ := h
  obtain ⟨np, hnp⟩ : ∃ np, ps.length = np := ⟨_, rfl⟩
  rw [hnp] at hp hpl ⊢
  have hmm := @run_makeMap Tryz.prog
  go_enter Tryz.func29, Tryz.ntmps29
  go_upto_region 1 with fail
  obtain ⟨w1, hw1⟩ : ∃ w1 : World, w1 = w.alloc (.cells #[.slice oa np c] 72) := ⟨_, rfl⟩
  obtain ⟨r, hr⟩ : ∃ r, r = w.heap.size := ⟨_, rfl⟩
  have hr1 : w1.heap[r]? = some (.cells #[.slice oa np c] 72 (0, 0)) := by rw [hw1, hr]; exact alloc_cells _ _ _
  have hb1 : Below w.heap.size w w1 := by rw [hw1]; exact (Below.refl _ _).alloc (Nat.le_refl _) _
  have h1 := h.below hb1
  have hp1 : readAt w1 1 (.slice oa np c) np (intCells ps) := hp.kept (fun k hl _ _ => hb1.block k hl)
  have HSL : Hid (∀ k, S k → k < w.heap.size) := Lib.hid h.low
  have hpz : 0 < np → ∀ k, (Value.slice oa np c).ownBlock = some k → k < w.heap.size := fun h0 k hk => hp.lt h0 k hk
  have hs1 : w1.heap.size = w.heap.size + 1 := by rw [hw1]; simp
  rw [← hr, ← hw1]
  have HR := Lib.hid hr
  have H1 := Lib.hid h1
  have HP1 := Lib.hid hp1
  have HPZ := Lib.hid hpz
  have HB1 := Lib.hid hb1
  have HS1 := Lib.hid hs1
  clear hw1 hr h h1 hp hp1 hpz hb1 hs1
  have r0 : w1.cell? ⟨r, 0, none⟩ = some (.slice oa np c) := cell_of hr1 rfl
  go_wp2_with fail
  refine (none_b H1.out).mono ?_
  rintro e w' ⟨rfl, rfl⟩
  go_wp2_with fail
  refine (containsInt_b hnp HP1.out hpl).mono ?_
  rintro e w1 ⟨b, rfl, hbb, rfl⟩
  cases b with
  | true =>
    have HO : Hid (CrashIs w d ps (.returned (.tuple #[.pointer none, .int .i64 2])) w1) := Lib.hid (.inl ⟨fun h => (by have := hbb.2 h; cases this), rfl, HB1.out⟩)
    clear hbb
    go_wp2_with fail
    go_ret2
    exact HO.out
  | false =>
    have HGE : Hid (AllGe ps) := Lib.hid (hbb.1 rfl)
    clear hbb
    go_upto_region 8 with fail
    obtain ⟨pb, hpb⟩ : ∃ pb, pb = w1.heap.size := ⟨_, rfl⟩
    obtain ⟨wa, hwa⟩ : ∃ wa : World, wa = w1.alloc (.cells #[.slice oa np c] 38) := ⟨_, rfl⟩
    have hsa : wa.heap.size = pb + 1 := by rw [hwa, hpb]; simp
    have hpa : wa.heap[pb]? = some (.cells #[.slice oa np c] 38 (0, 0)) := by rw [hwa, hpb]; exact alloc_cells _ _ _
    have hba : Below w1.heap.size w1 wa := by rw [hwa]; exact (Below.refl _ _).alloc (Nat.le_refl _) _
    have hdn := disk_new wa
    obtain ⟨w2, hw2⟩ : ∃ w2 : World, w2 = (wa.alloc (.map #[] 0)).alloc (.cells #[.map (some wa.heap.size), .slice none 0 0, .int .i64 0] 120) := ⟨_, rfl⟩
    have hb2 : Below wa.heap.size wa w2 := by rw [hw2]; exact ((Below.refl _ _).alloc (Nat.le_refl _) _).alloc (by simp) _
    have hs2 : w2.heap.size = pb + 3 := by rw [hw2]; simp [hsa]
    rw [← hw2] at hdn
    rw [hsa] at hdn hw2
    rw [← hpb, ← hwa, ← hw2]
    have hB2 : Below w.heap.size w w2 := HB1.out.trans ((hba.trans (hb2.mono hba.size)).mono HB1.out.size)
    have h2 : DiskIs w2 S q mb fv L d := (H1.out.below hba).below hb2
    have hpk : PicksAt w2 pb w.heap.size ps := by
      refine ⟨oa, c, ?_, ?_, fun h0 k hk => ?_⟩
      · rw [hnp]; exact (hb2.block pb (by omega)).trans hpa
      · rw [hnp]
        have := HP1.out
        exact (this.kept (fun k hl _ _ => hba.block k hl)).kept (fun k hl _ _ => hb2.block k hl)
      · have h3 := HPZ.out (by omega) k (by rw [hnp] at hk; exact hk)
        have h4 := HS1.out
        exact ⟨by omega, h3⟩
    have HZ : Hid (w.heap.size < pb) := Lib.hid (by have := HS1.out; omega)
    have H2 := Lib.hid h2
    have HPK := Lib.hid hpk
    have HDN := Lib.hid hdn
    have HB2 := Lib.hid hB2
    have HS2 := Lib.hid hs2
    clear hpb hwa hsa hpa hba hdn hw2 hb2 hs2 hB2 h2 hpk r0 hr1 HR H1 HP1 HPZ HB1 HS1
    go_wp2_with fail
    refine (names_b H2.out).mono ?_
    rintro e w3 ⟨v, rfl, hown, hnil, hb3⟩
    obtain ⟨n, hn⟩ : ∃ n, L.length = n := ⟨_, rfl⟩
    rw [hn] at hown
    have hrow := rowAt.of_row (hasRow.of_own hown)
    obtain ⟨oan, cn, rfl, _⟩ := hrow.shape
    have hge : ∀ k, (Value.slice oan n cn).ownBlock = some k → w2.heap.size ≤ k := fun k hk => ((hasRow.of_own hown).lt k hk).1
    have HROW := Lib.hid hrow
    have HGE2 := Lib.hid hge
    have HB3 := Lib.hid hb3
    have HLN := Lib.hid hn
    have hnle : n ≤ 4096 := by
      have h3 := H2.out.few
      rw [← H2.out.files, List.length_map, hn] at h3
      exact h3
    clear hown hnil hb3 hn hrow hge
    have hinv : CrashInv w3 w3 S q mb fv L d pb w.heap.size 0 ps := by
      have hs3 := HB3.out.size
      have hs2 := HS2.out
      refine ⟨⟨H2.out.below HB3.out, Only.refl _ _, ⟨[], ?_⟩, HSL.out, HZ.out, by omega⟩, ?_, ?_⟩
      · have h3 := HDN.out.wider (S' := fun k => (k = pb + 2 ∨ k = pb + 1) ∧ k < w2.heap.size) (fun k hk => by
          have := hk.1
          have := hk.2
          exact ⟨by omega, by omega⟩) (fun k hk => hk.2)
        exact (h3.below HB3.out).wider (fun k hk => ⟨by rcases hk.1 with h | h <;> simp [h], Nat.lt_of_lt_of_le hk.2 hs3⟩) (fun k hk => hk.2)
      · have := HZ.out
        exact HPK.out.kept (fun k hk => HB3.out.block k (by omega))
      · exact fun x hx => ⟨HGE.out x hx, hpm x hx⟩
    have HINV := Lib.hid hinv
    clear hinv hmm
    go_wp2_with fail
    go_loopw [28] (fun i wr => ∃ j : Nat, j ≤ n ∧ i = .int .i64 j ∧ Hid (CrashInv w3 wr S q mb fv L d pb w.heap.size j ps)) (fun i _ => n - (intOf i).toNat)
    case atStart => exact ⟨0, Nat.zero_le _, rfl, HINV⟩
    case round =>
      obtain ⟨j, hj, rfl, HI⟩ := hrel
      clear HINV
      by_cases hlt : j < n
      · have hjL : j < L.length := by rw [HLN.out]; exact hlt
        obtain ⟨x, hx⟩ : ∃ x, L[j] = x := ⟨_, rfl⟩
        have hxm : x ∈ L := by rw [← hx]; exact List.getElem_mem _
        obtain ⟨nm, hnm⟩ : ∃ nm : ByteArray, nm = ⟨x.f.name.toArray⟩ := ⟨_, rfl⟩
        have hnmd : nm.data.toList = x.f.name := by rw [hnm]
        obtain ⟨gn, on, rfl⟩ := HROW.out.addr (by omega)
        have hgn := HGE2.out gn rfl
        have hgl := HROW.out.lt gn rfl
        have hs2 := HS2.out
        have hcn : wr.cell? ⟨gn, on + j, none⟩ = some (.string nm) := by
          have h3 := HROW.out.cells (g := gn) (off := on) rfl j (.string nm) (by
            rw [List.getElem?_map, List.getElem?_eq_getElem hjL, hx, hnm]
            rfl)
          rw [Go.WideShapes.add_plain] at h3
          have h4 := HI.out.pre.only.block gn hgl (by omega)
          rw [← h3]
          exact cell_kept_at h4
        have hnok : nameOk x.f.name = true := HI.out.pre.old.names _ (by rw [← HI.out.pre.old.files]; exact List.mem_map_of_mem hxm)
        have hnsz : nm.size ≤ 32 := by
          have h3 : x.f.name.length ≤ 32 := by simp [nameOk] at hnok; exact hnok.2
          rw [hnm]; simpa [ByteArray.size] using h3
        have hl := HI.out.pre.old.lookup1_some hxm (nm := nm) (by unfold maxLen; omega) hnmd.symm
        have hxf := HI.out.pre.old.each x hxm
        obtain ⟨oab, cb, hbv, hnb⟩ := hxf.row.shape
        obtain ⟨N, hN⟩ : ∃ N, x.f.bytes.length = N := ⟨_, rfl⟩
        obtain ⟨l, hll⟩ : ∃ l, x.f.lasts = l := ⟨_, rfl⟩
        obtain ⟨th, hth⟩ : ∃ b, x.f.there = b := ⟨_, rfl⟩
        obtain ⟨nd, hnd⟩ : ∃ b, x.f.named = b := ⟨_, rfl⟩
        have hxc := hxf.cells
        rw [hbv, hN, hll, hth, hnd] at hxc
        have hlN : l ≤ N ∧ N ≤ 16777216 := by
          have h3 := hxf.lasts
          have h4 := hxf.size
          omega
        have c0 : wr.cell? ⟨q, 0, none⟩ = some (.map (some mb)) := cell_of HI.out.pre.old.head rfl
        have k2 : wr.cell? ⟨x.blk, 2, none⟩ = some (.bool th) := cell_of hxc rfl
        have k3 : wr.cell? ⟨x.blk, 3, none⟩ = some (.bool nd) := cell_of hxc rfl
        obtain ⟨P, hP⟩ : ∃ P, (crashTo (d.files.take j) ps).2 = P := ⟨_, rfl⟩
        have hpk := HI.out.picks
        have hok := HI.out.ok
        rw [hP] at hpk hok
        have HX := Lib.hid (And.intro hx (And.intro hxm (And.intro hnmd hnok)))
        have HF := Lib.hid (And.intro hbv (And.intro hN (And.intro hll (And.intro hth hnd))))
        have HXC := Lib.hid hxc
        have HPK2 := Lib.hid hpk
        have HOK := Lib.hid hok
        have HPP := Lib.hid hP
        have HGN : Hid (w2.heap.size ≤ gn ∧ gn < w3.heap.size) := Lib.hid ⟨hgn, hgl⟩
        clear hx hxm hnm hnmd hgn hgl hnok hxf hbv hnb hN hll hth hnd hxc hpk hok hP hs2
        go_upto_region 12 with fail
        go_cut [54] from 38 to 54 (fun s54 wx => s54 = .bool (!(keepP x.f P).1) ∧ Hid (PicksAt wx pb w.heap.size (keepP x.f P).2 ∧ Only (fun k => k = pb) wr wx))
        case first =>
          cases th
          · have hk : keepP x.f P = (decide ((nextP 2 P).1 ≠ 0), (nextP 2 P).2) := by simp [keepP, HF.out.2.2.2.1]
            have HK := Lib.hid hk
            clear hk
            go_wp2_with fail
            refine (next_b HPK2.out (fun y hy => (HOK.out y hy).1) 2 (by omega) (by omega) (fun y hy => (HOK.out y hy).2)).mono ?_
            rintro e w4 ⟨rfl, hp4, ho4⟩
            have HP4 := Lib.hid (And.intro hp4 ho4)
            clear hp4 ho4
            go_wp2_with fail
            go_meet
            exact ⟨by rw [HK.out, keep_eq], by rw [HK.out]; exact HP4⟩
          · cases nd
            · have hk : keepP x.f P = (decide ((nextP 2 P).1 ≠ 0), (nextP 2 P).2) := by simp [keepP, HF.out.2.2.2.2]
              have HK := Lib.hid hk
              clear hk
              go_wp2_with fail
              refine (next_b HPK2.out (fun y hy => (HOK.out y hy).1) 2 (by omega) (by omega) (fun y hy => (HOK.out y hy).2)).mono ?_
              rintro e w4 ⟨rfl, hp4, ho4⟩
              have HP4 := Lib.hid (And.intro hp4 ho4)
              clear hp4 ho4
              go_wp2_with fail
              go_meet
              exact ⟨by rw [HK.out, keep_eq], by rw [HK.out]; exact HP4⟩
            · have hk : keepP x.f P = (true, P) := by simp [keepP, HF.out.2.2.2.1, HF.out.2.2.2.2]
              have HK := Lib.hid hk
              clear hk
              go_wp2_with fail
              go_meet
              exact ⟨by rw [HK.out]; rfl, by rw [HK.out]; exact Lib.hid ⟨HPK2.out, Only.refl _ _⟩⟩
        case rest =>
          obtain ⟨rfl, HC1⟩ := hcut
          have HPRE : Hid (CrashPre w3 wc S q mb fv L d pb w.heap.size (crashTo (d.files.take j) ps).1) := Lib.hid (HI.out.pre.pick HC1.out.2)
          have HOK1 : Hid (PicksOk (keepP x.f P).2) := Lib.hid (keepP_ok _ HOK.out)
          have HTK : Hid (crashTo (d.files.take (j + 1)) ps = crashStep (crashTo (d.files.take j) ps) x.f) := Lib.hid (by
            rw [take_files HI.out.pre.old.files hjL, HX.out.1, crashTo_snoc])
          obtain ⟨kp, hkp⟩ : ∃ kp, (keepP x.f P).1 = kp := ⟨_, rfl⟩
          obtain ⟨P1, hP1⟩ : ∃ P1, (keepP x.f P).2 = P1 := ⟨_, rfl⟩
          rw [hP1] at HC1
          rw [hkp]
          rw [hP1] at HOK1
          have HKP := Lib.hid (And.intro hkp hP1)
          clear hkp hP1
          cases kp with
          | false =>
            have HN : Hid (CrashInv w3 wc S q mb fv L d pb w.heap.size (j + 1) ps) := Lib.hid (by
              have e : crashStep (crashTo (d.files.take j) ps) x.f = ((crashTo (d.files.take j) ps).1, P1) := by
                unfold crashStep
                rw [HPP.out, HKP.out.1, HKP.out.2]
                rfl
              exact ⟨by rw [HTK.out, e]; exact HPRE.out, by rw [HTK.out, e]; exact HC1.out.1, by rw [HTK.out, e]; exact HOK1.out⟩)
            clear HTK HPRE
            go_wp2_with fail
            exact ⟨⟨j + 1, by omega, by simp, HN⟩, by simp [intOf]; omega⟩
          | true =>
            have hxf2 := HPRE.out.old.each x HX.out.2.1
            have hxc2 := hxf2.cells
            rw [HF.out.1, HF.out.2.1, HF.out.2.2.1, HF.out.2.2.2.1, HF.out.2.2.2.2] at hxc2
            have k0 : wc.cell? ⟨x.blk, 0, none⟩ = some (.slice oab N cb) := cell_of hxc2 rfl
            have k1 : wc.cell? ⟨x.blk, 1, none⟩ = some (.int .i64 l) := cell_of hxc2 rfl
            have k2' : wc.cell? ⟨x.blk, 2, none⟩ = some (.bool th) := cell_of hxc2 rfl
            clear hxf2 hxc2 c0 k2 k3 hl hcn
            obtain ⟨m, hm⟩ : ∃ m, (moreP x.f P1).1 = m := ⟨_, rfl⟩
            obtain ⟨P2, hP2⟩ : ∃ P2, (moreP x.f P1).2 = P2 := ⟨_, rfl⟩
            have HM := Lib.hid (And.intro hm hP2)
            clear hm hP2
            go_upto_region 14 with fail
            go_region
            go_upto_region 15 with fail
            obtain ⟨bm, hbm⟩ : ∃ bm : Bool, (th && decide (l < N)) = bm := ⟨_, rfl⟩
            go_cut [76] from 69 to 76 (fun s76 wx => s76 = .bool bm ∧ wx = wc.drew)
            case first =>
              have HBM := Lib.hid hbm
              clear hbm
              cases th
              · go_wp2_with fail
                go_meet
                exact ⟨by rw [← HBM.out]; rfl, rfl⟩
              · by_cases hlt2 : l < N
                · have hd1 : decide ((0 : Int) < (N : Int) - (l : Int)) = true := by simp; omega
                  have HL2 := Lib.hid hlt2
                  clear hlt2
                  go_wp2_with fail
                  go_meet
                  exact ⟨by rw [← HBM.out]; simp [HL2.out], rfl⟩
                · have hd1 : decide ((0 : Int) < (N : Int) - (l : Int)) = false := by simp; omega
                  have HL2 := Lib.hid hlt2
                  clear hlt2
                  go_wp2_with fail
                  go_meet
                  exact ⟨by rw [← HBM.out]; simp [HL2.out], rfl⟩
            case rest =>
              obtain ⟨rfl, hwx⟩ := hcut
              subst hwx
              have hmo : moreP x.f P1 = if bm then nextP (N - l + 1) P1 else (0, P1) := by
                unfold moreP
                rw [HF.out.2.1, HF.out.2.2.1, HF.out.2.2.2.1, hbm]
              have HMO := Lib.hid hmo
              obtain ⟨wd, hwd⟩ : ∃ wd : World, wd = wc.drew := ⟨_, rfl⟩
              have HPD : Hid (PicksAt wd pb w.heap.size P1) := Lib.hid (by rw [hwd]; exact HC1.out.1)
              have HPRD : Hid (CrashPre w3 wd S q mb fv L d pb w.heap.size (crashTo (d.files.take j) ps).1) := Lib.hid (by rw [hwd]; exact HPRE.out.drew)
              rw [← hwd]
              clear hmo hbm hwd k0 k1 k2' HPRE HC1
              go_upto_if 76 with fail
              go_cut [12] from 77 to 82 (fun s12 wx => s12 = .int .i64 ((l + m : Nat) : Int) ∧ Hid (PicksAt wx pb w.heap.size P2 ∧ Only (fun k => k = pb) wd wx))
              case first =>
                cases bm
                · have h1 := HM.out
                  rw [HMO.out] at h1
                  have HF2 : Hid (Value.int .i64 (l : Int) = Value.int .i64 ((l + m : Nat) : Int) ∧ Hid (PicksAt wd pb w.heap.size P2 ∧ Only (fun k => k = pb) wd wd)) := Lib.hid ⟨by rw [← h1.1]; simp, Lib.hid ⟨by rw [← h1.2]; exact HPD.out, Only.refl _ _⟩⟩
                  clear h1
                  go_wp2_with fail
                  go_meet
                  exact HF2.out
                · go_wp2_with fail
                  refine (next_v (v := (N : Int) - (l : Int) + 1) HPD.out (fun y hy => (HOK1.out y hy).1) (N - l + 1) (by omega) (by omega) (fun y hy => (HOK1.out y hy).2) (by omega)).mono ?_
                  rintro e w4 ⟨rfl, hp4, ho4⟩
                  have HP4 := Lib.hid (And.intro hp4 ho4)
                  clear hp4 ho4
                  have hmb2 : (nextP (N - l + 1) P1).1 < N - l + 1 := nextP_lt _ _ (by omega)
                  go_wp2_with fail
                  go_meet
                  have h1 := HM.out
                  rw [HMO.out] at h1
                  exact ⟨by rw [← h1.1]; simp, Lib.hid ⟨by rw [← h1.2]; exact HP4.out.1, HP4.out.2⟩⟩
              case rest =>
                obtain ⟨rfl, HC2⟩ := hcut
                have HPR2 : Hid (CrashPre w3 wc S q mb fv L d pb w.heap.size (crashTo (d.files.take j) ps).1) := Lib.hid (HPRD.out.pick HC2.out.2)
                have hxf2 := HPR2.out.old.each x HX.out.2.1
                have hxc2 := hxf2.cells
                have hxr2 := hxf2.row
                rw [HF.out.1, HF.out.2.1] at hxr2
                rw [HF.out.1, HF.out.2.1, HF.out.2.2.1, HF.out.2.2.2.1, HF.out.2.2.2.2] at hxc2
                obtain ⟨Lo, hLo⟩ := HPR2.out.new
                obtain ⟨D, hown, hdsz, hdic⟩ := hLo.look
                have hmle : l + m ≤ N := by
                  have h1 := moreP_le x.f P1 hxf2.lasts
                  rw [HM.out.1, HF.out.2.1, HF.out.2.2.1] at h1
                  exact h1
                obtain ⟨E, hE⟩ : ∃ E, E = l + m := ⟨_, rfl⟩
                obtain ⟨hm0, hNc⟩ := hxr2.map0
                have hsl : ∀ W : World, (Instr.slice 39 (.slice oab N cb) none (some (.int .i64 (E : Int))) none).run Tryz.prog W = .ok (.slice oab E cb) W := fun W => run_take oab N cb E (by omega) hm0 W
                have hrow2 : rowAt wc 5 1 (.slice oab E cb) E (byteCells (x.f.bytes.take E)) := by
                  have h1 := hxr2.take E (by omega)
                  rw [Nat.mul_one, byteCells_take] at h1
                  exact h1
                have hEl : (x.f.bytes.take E).length = E := by rw [List.length_take, HF.out.2.1]; omega
                have HCL : Hid (Calls Tryz.prog 83 #[.slice oab E cb] wc.drew fun e w'' => ∃ v, e = .returned v ∧ NewBytes wc w'' v (x.f.bytes.take E)) := Lib.hid (by
                  refine (clone_b (w := wc.drew) hEl hrow2 (by omega)).mono ?_
                  rintro e w'' ⟨v, rfl, h1, h2, h3⟩
                  exact ⟨v, rfl, h1, h2, ⟨h3.os, h3.tape, h3.output, h3.size, h3.block⟩⟩)
                have co : wc.cell? ⟨pb + 1 + 1, 0, none⟩ = some (.map (some (pb + 1))) := cell_of hLo.head rfl
                have k0 : wc.cell? ⟨x.blk, 0, none⟩ = some (.slice oab N cb) := cell_of hxc2 rfl
                have HLO := Lib.hid hLo
                have HOW := Lib.hid (And.intro hown hdic)
                have HEL := Lib.hid hEl
                have HEE := Lib.hid hE
                have HEN : Hid (E ≤ N) := Lib.hid (by omega)
                have HLL : Hid (Lo.length ≤ 4096) := Lib.hid (by
                  have h1 := hLo.few
                  have h2 := hLo.files
                  rw [← h2, List.length_map] at h1
                  exact h1)
                rw [← hE]
                clear hxf2 hxc2 hxr2 hLo hown hdsz hdic hmle hE hm0 hrow2 hEl
                go_upto_region 17 with fail
                have HKEY : Hid (keyOf Tryz.prog 9 (.string nm) = some (.string x.f.name)) := Lib.hid (by rw [← HX.out.2.2.1]; exact WideMaps.keyOf_string_mk (P := Tryz.prog) Tryz.underlying9 (by unfold maxLen; omega))
                go_region_law (first | (go_simp; go_at_call 83; refine HCL.out.mono ?_; rintro e w5 ⟨v, rfl, hnb⟩; obtain ⟨oav, cv, hve, _⟩ := hnb.1.shape; rw [HEL.out] at hve; subst hve; have co5 : w5.cell? ⟨pb + 1 + 1, 0, none⟩ = some (.map (some (pb + 1))) := (by rw [← co]; exact cell_kept_at (hnb.2.2.block _ (HLO.out.low _ (HLO.out.foot _ (by simp [diskBlocks]))))); have co6 : ∀ o : Obj, (w5.alloc o).cell? ⟨pb + 1 + 1, 0, none⟩ = some (.map (some (pb + 1))) := (fun o => by rw [← co5]; exact cell_kept_at (Below.heap_alloc w5 o _ (Nat.lt_of_lt_of_le (HLO.out.low _ (HLO.out.foot _ (by simp [diskBlocks]))) hnb.2.2.size))); have HOW5 : Hid (w5.ownsMap Tryz.prog 9 ptrElem (pb + 1) Lo.length D) := Lib.hid (ownsMap_kept HOW.out.1 (hnb.2.2.block _ (HLO.out.low (pb + 1) (HLO.out.foot (pb + 1) (by simp [diskBlocks]))))); obtain ⟨w6, hmu, hown6, hg6⟩ := World.ownsMap.update (t := 118) (HOW5.out.alloc (.cells #[.slice oav E cv, .int .i64 E, .bool true, .bool true] 179)) (string_keyed Tryz.underlying9) Tryz.underlying118 (by unfold maxLen; have := HLL.out; omega) HKEY.out (ptrElem_mk w5.heap.size); have HNB := Lib.hid hnb; have HOW6 := Lib.hid hown6; have HG6 := Lib.hid hg6; clear hnb hown6 hg6))
                all_goals
                  have HN : Hid (CrashInv w3 w6 S q mb fv L d pb w.heap.size (j + 1) ps) := Lib.hid (by
                    have hg0 : cutF x.f m = ⟨x.f.name, x.f.bytes.take E, E, true, true⟩ := by unfold cutF; rw [HF.out.2.2.1, ← HEE.out]
                    have htf := take_files HI.out.pre.old.files hjL
                    rw [HX.out.1] at htf
                    have hlen : (crashTo (d.files.take j) ps).1.length < 4096 := by
                      have h1 := crashTo_length ps (d.files.take j) ([], ps)
                      rw [List.length_take] at h1
                      have h2 : (crashTo (d.files.take j) ps).1.length ≤ 0 + min j d.files.length := h1
                      omega
                    have hel := HEL.out
                    have ha := HPR2.out.add (g := ⟨x.f.name, x.f.bytes.take E, E, true, true⟩) HLO.out HOW.out.2 HNB.out HG6.out HOW6.out (by show E ≤ (x.f.bytes.take E).length; omega) (by show (x.f.bytes.take E).length ≤ 16777216; have := HEN.out; omega) HX.out.2.2.2 (fun g' hg' => crash_lt (f := x.f) HI.out.pre.old.sorted htf g' hg') hlen
                    have e : crashStep (crashTo (d.files.take j) ps) x.f = ((crashTo (d.files.take j) ps).1 ++ [⟨x.f.name, x.f.bytes.take E, E, true, true⟩], P2) := by
                      unfold crashStep
                      rw [HPP.out, HKP.out.1, HKP.out.2, HM.out.1, HM.out.2, hg0]
                      rfl
                    have hpb : pb + 1 < wc.heap.size := HLO.out.low (pb + 1) (HLO.out.foot (pb + 1) (by simp [diskBlocks]))
                    have hz := HZ.out
                    have hao := add_only HNB.out HG6.out
                    refine ⟨by rw [HTK.out, e]; exact ha, ?_, ?_⟩
                    · rw [HTK.out, e]
                      exact HC2.out.1.kept (fun k hk => hao.block k (by omega) (by omega))
                    · rw [HTK.out, e]
                      have := moreP_ok x.f HOK1.out
                      rw [HM.out.2] at this
                      exact this)
                  clear hmu co5 co6
                  go_wp2_with fail
                  exact ⟨⟨j + 1, by omega, by simp, HN⟩, by simp [intOf]; omega⟩
      · obtain rfl : j = n := by omega
        have HO : Hid (CrashIs w d ps (.returned (.tuple #[.pointer (some ⟨pb + 2, 0, none⟩), .int .i64 0])) wr) := Lib.hid (by
          have hs3 := HB3.out.size
          have hs2 := HS2.out
          have hz := HZ.out
          obtain ⟨Lo, hLo⟩ := HI.out.pre.new
          have hb : Below w.heap.size w wr := HB2.out.trans ((HB3.out.mono HB2.out.size).trans (HI.out.pre.only.below (fun i hi hk => by omega) (by omega)))
          refine .inr ⟨HGE.out, pb + 2, rfl, ⟨pb + 1, .slice none 0 0, Lo, ?_⟩, hb⟩
          have e : (⟨(crashTo (d.files.take j) ps).1, [], 0⟩ : Dk) = d.crash ps := by
            rw [List.take_of_length_le (by rw [← H2.out.files, List.length_map, HLN.out]; exact Nat.le_refl _)]; rfl
          rw [e] at hLo
          exact hLo.wider (fun k hk => ⟨by have := hk.1; omega, hk.2⟩) (fun k hk => hk.2))
        go_wp2_with fail
        go_ret2
        exact HO.out
end Go.Proofs.YtlgcoaeddeiegaaGreat
