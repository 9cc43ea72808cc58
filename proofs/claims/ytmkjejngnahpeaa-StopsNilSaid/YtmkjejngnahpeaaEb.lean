/- Disk: all names, rising. -/
import Derived.Test.YtmkjejngnahpeaaEa
import Derived.Shelf.SlIter.Nil
import Derived.Shelf.SortM.Plain
import Derived.Shelf.SortM.SortNone
namespace Go.Proofs.Ytmkjejngnahpeaa
open Go Go.RowKit Go.Maps Go.Sort Go.Shelf
open Go.Proofs (encStr)

def keysL_ren : Go.Shelf.Ren := ⟨fun | 7 => 160 | 10 => 182 | n => n, fun | 23 => 120 | 26 => 9 | 3 => 176 | 28 => 244 | 0 => 0 | 27 => 243 | 33 => 27 | 4 => 4 | n => n, fun | n => n⟩
theorem keysL : Go.Proofs.SlLaysZ.n7 Try.prog keysL_ren := {
  mixed := by kernel_rfl
  f7 := ⟨Try.f160.name, by decide, Try.func160.trans (congrArg some (by kernel_rfl))⟩
  f10 := ⟨Try.f182.name, by decide, Try.func182.trans (congrArg some (by kernel_rfl))⟩
  t0 := Try.underlying0
  a0 := Try.isAgg0
  z0 := Try.sizeOf0
  v0 := Try.zeroValue0
  t4 := Try.underlying4
  a4 := Try.isAgg4
  z4 := Try.sizeOf4
  v4 := Try.zeroValue4
  t23 := Try.underlying120
  a23 := Try.isAgg120
  z23 := Try.sizeOf120
  v23 := Try.zeroValue120
  t26 := Try.underlying9
  a26 := Try.isAgg9
  z26 := Try.sizeOf9
  v26 := Try.zeroValue9
  t27 := Try.underlying243
  a27 := Try.isAgg243
  z27 := Try.sizeOf243
  v27 := Try.zeroValue243
  t28 := Try.underlying244
  a28 := Try.isAgg244
  z28 := Try.sizeOf244
  v28 := Try.zeroValue244
  t33 := Try.underlying27
  a33 := Try.isAgg27
  z33 := Try.sizeOf27
  v33 := Try.zeroValue27
}
def sortedL_ren : Go.Shelf.Ren := ⟨fun | 6 => 159 | 8 => 180 | 9 => 181 | 11 => 188 | 13 => 190 | 12 => 189 | 23 => 200 | 24 => 201 | 14 => 191 | 15 => 192 | 16 => 193 | 17 => 194 | 18 => 195 | 19 => 196 | 20 => 197 | 21 => 198 | 22 => 199 | 25 => 202 | 26 => 203 | 27 => 204 | 28 => 205 | 29 => 206 | 30 => 207 | 31 => 208 | n => n, fun | 26 => 9 | 28 => 244 | 24 => 94 | 0 => 0 | 3 => 3 | 37 => 152 | 48 => 228 | 50 => 227 | 4 => 4 | 40 => 273 | 39 => 272 | 45 => 278 | 5 => 5 | 9 => 9 | 51 => 282 | 55 => 286 | 57 => 288 | 58 => 86 | 33 => 27 | n => n, fun | n => n⟩
theorem sortedL : Go.Proofs.SlLaysZ.n6 Try.prog sortedL_ren := {
  mixed := by kernel_rfl
  f6 := ⟨Try.f159.name, by decide, Try.func159.trans (congrArg some (by kernel_rfl))⟩
  f8 := ⟨Try.f180.name, by decide, Try.func180.trans (congrArg some (by kernel_rfl))⟩
  f11 := ⟨Try.f188.name, by decide, Try.func188.trans (congrArg some (by kernel_rfl))⟩
  t0 := Try.underlying0
  a0 := Try.isAgg0
  z0 := Try.sizeOf0
  v0 := Try.zeroValue0
  t24 := Try.underlying94
  a24 := Try.isAgg94
  z24 := Try.sizeOf94
  v24 := Try.zeroValue94
  t26 := Try.underlying9
  a26 := Try.isAgg9
  z26 := Try.sizeOf9
  v26 := Try.zeroValue9
  t28 := Try.underlying244
  a28 := Try.isAgg244
  z28 := Try.sizeOf244
  v28 := Try.zeroValue244
  i26 := by kernel_rfl
}
def sortL_ren : Go.Shelf.Ren := ⟨fun | 6 => 181 | 8 => 190 | 9 => 189 | 19 => 200 | 20 => 201 | 21 => 191 | 22 => 192 | 23 => 193 | 24 => 194 | 25 => 195 | 26 => 196 | 27 => 197 | 28 => 198 | 29 => 199 | 36 => 202 | 31 => 203 | 32 => 204 | 37 => 205 | 38 => 206 | 39 => 207 | 41 => 208 | n => n, fun | 27 => 94 | 29 => 9 | 3 => 3 | 32 => 152 | 26 => 94 | 0 => 0 | 44 => 228 | 46 => 227 | 4 => 4 | 36 => 273 | 35 => 272 | 41 => 278 | 5 => 5 | 9 => 9 | 53 => 282 | 57 => 286 | 63 => 288 | 64 => 86 | n => n, fun | n => n⟩
theorem sortL : Go.Proofs.SlLaysM.n6 Try.prog sortL_ren := {
  mixed := by kernel_rfl
  f6 := ⟨Try.f181.name, by decide, Try.func181.trans (congrArg some (by kernel_rfl))⟩
  f8 := Try.func190.trans (congrArg some (by kernel_rfl))
  f9 := ⟨Try.f189.name, by decide, Try.func189.trans (congrArg some (by kernel_rfl))⟩
  f19 := Try.func200.trans (congrArg some (by kernel_rfl))
  f20 := Try.func201.trans (congrArg some (by kernel_rfl))
  f21 := ⟨Try.f191.name, by decide, Try.func191.trans (congrArg some (by kernel_rfl))⟩
  f22 := ⟨Try.f192.name, by decide, Try.func192.trans (congrArg some (by kernel_rfl))⟩
  f23 := ⟨Try.f193.name, by decide, Try.func193.trans (congrArg some (by kernel_rfl))⟩
  f24 := ⟨Try.f194.name, by decide, Try.func194.trans (congrArg some (by kernel_rfl))⟩
  f25 := ⟨Try.f195.name, by decide, Try.func195.trans (congrArg some (by kernel_rfl))⟩
  f26 := ⟨Try.f196.name, by decide, Try.func196.trans (congrArg some (by kernel_rfl))⟩
  f27 := ⟨Try.f197.name, by decide, Try.func197.trans (congrArg some (by kernel_rfl))⟩
  f28 := ⟨Try.f198.name, by decide, Try.func198.trans (congrArg some (by kernel_rfl))⟩
  f29 := ⟨Try.f199.name, by decide, Try.func199.trans (congrArg some (by kernel_rfl))⟩
  f31 := Try.func203.trans (congrArg some (by kernel_rfl))
  f32 := Try.func204.trans (congrArg some (by kernel_rfl))
  f36 := ⟨Try.f202.name, by decide, Try.func202.trans (congrArg some (by kernel_rfl))⟩
  f37 := ⟨Try.f205.name, by decide, Try.func205.trans (congrArg some (by kernel_rfl))⟩
  f38 := ⟨Try.f206.name, by decide, Try.func206.trans (congrArg some (by kernel_rfl))⟩
  f39 := ⟨Try.f207.name, by decide, Try.func207.trans (congrArg some (by kernel_rfl))⟩
  f41 := ⟨Try.f208.name, by decide, Try.func208.trans (congrArg some (by kernel_rfl))⟩
  t0 := Try.underlying0
  a0 := Try.isAgg0
  z0 := Try.sizeOf0
  v0 := Try.zeroValue0
  t3 := Try.underlying3
  a3 := Try.isAgg3
  z3 := Try.sizeOf3
  v3 := Try.zeroValue3
  t4 := Try.underlying4
  a4 := Try.isAgg4
  z4 := Try.sizeOf4
  v4 := Try.zeroValue4
  t5 := Try.underlying5
  a5 := Try.isAgg5
  z5 := Try.sizeOf5
  v5 := Try.zeroValue5
  t9 := Try.underlying9
  a9 := Try.isAgg9
  z9 := Try.sizeOf9
  v9 := Try.zeroValue9
  t26 := Try.underlying94
  a26 := Try.isAgg94
  z26 := Try.sizeOf94
  v26 := Try.zeroValue94
  t27 := Try.underlying94
  a27 := Try.isAgg94
  z27 := Try.sizeOf94
  v27 := Try.zeroValue94
  t29 := Try.underlying9
  a29 := Try.isAgg9
  z29 := Try.sizeOf9
  v29 := Try.zeroValue9
  t32 := Try.underlying152
  a32 := Try.isAgg152
  z32 := Try.sizeOf152
  v32 := Try.zeroValue152
  t35 := Try.underlying272
  a35 := Try.isAgg272
  z35 := Try.sizeOf272
  v35 := Try.zeroValue272
  t36 := Try.underlying273
  a36 := Try.isAgg273
  z36 := Try.sizeOf273
  v36 := Try.zeroValue273
  t41 := Try.underlying278
  a41 := Try.isAgg278
  z41 := Try.sizeOf278
  v41 := Try.zeroValue278
  t44 := Try.underlying228
  a44 := Try.isAgg228
  z44 := Try.sizeOf228
  v44 := Try.zeroValue228
  t46 := Try.underlying227
  a46 := Try.isAgg227
  z46 := Try.sizeOf227
  v46 := Try.zeroValue227
  t53 := Try.underlying282
  a53 := Try.isAgg282
  z53 := Try.sizeOf282
  v53 := Try.zeroValue282
  t57 := Try.underlying286
  a57 := Try.isAgg286
  z57 := Try.sizeOf286
  v57 := Try.zeroValue286
  t63 := Try.underlying288
  a63 := Try.isAgg288
  z63 := Try.sizeOf288
  v63 := Try.zeroValue288
  t64 := Try.underlying86
  a64 := Try.isAgg86
  z64 := Try.sizeOf86
  v64 := Try.zeroValue86
}

theorem sortsL (m : Nat) : AnyZ.SortsIn Try.prog sortedL_ren Fence.wide m :=
  ⟨fun blk off cap ss W hH hblk hsz => callsIn_wide.2 (AnyM.slices_Sort_string sortL blk off cap ss W hH hblk hsz),
   fun p cap W => callsIn_wide.2 (AnyM.slices_Sort_string_none sortL p cap W)⟩
theorem mergeSort_self {l : List (List UInt8)} (h : l.Pairwise (fun a b => leB a b = true)) : l.mergeSort leB = l := by
  have tr : ∀ a b c : List UInt8, leB a b = true → leB b c = true → leB a c = true := fun a b c h1 h2 => by simp only [leB, decide_eq_true_eq] at *; exact List.le_trans h1 h2
  have tot : ∀ a b : List UInt8, (leB a b || leB b a) = true := fun a b => by simp only [leB, Bool.or_eq_true, decide_eq_true_eq]; exact List.le_total a b
  refine List.Perm.eq_of_pairwise (le := fun a b => leB a b = true) (fun a b _ _ h1 h2 => ?_) (List.pairwise_mergeSort tr tot l) h (List.mergeSort_perm l leB)
  simp only [leB, decide_eq_true_eq] at h1 h2
  exact List.le_antisymm h1 h2
set_option maxHeartbeats 1000000 in
theorem names_b {w : World} {S : Nat → Prop} {q mb : Nat} {fv : Value} {L : List Fl} {d : Dk} (h : DiskIs w S q mb fv L d) :
    Calls Try.prog 112 #[.pointer (some ⟨q, 0, none⟩)] w fun e w' => ∃ v, e = .returned v ∧
      w'.ownsRow w.heap.size 9 1 v L.length (L.map fun x => encStr x.f.name) ∧ (v = .slice none 0 0 ↔ L = []) ∧ Below w.heap.size w w' := by
  obtain ⟨D0, hown, hsz, hd⟩ := h.look
  have hnd : (L.map fun x => x.f.name).Nodup := h.nodup
  have hperm := hd.perm hown (by rw [List.map_map]; exact hnd)
  rw [List.map_map] at hperm
  have hsorted : (L.map fun x => x.f.name).Pairwise (fun a b => leB a b = true) := by
    have h1 := h.sorted
    rw [← h.files, List.map_map] at h1
    exact h1.imp (fun {a b} hab => by simpa [leB] using List.le_of_lt hab)
  have hlen : L.length ≤ 4096 := by
    have h1 := h.few
    rw [← h.files, List.length_map] at h1
    exact h1
  have HP := Lib.hid (And.intro hperm (And.intro hsorted hlen))
  have c0 : w.cell? ⟨q, 0, none⟩ = some (.map (some mb)) := cell_of h.head rfl
  have H := Lib.hid h
  refine (callsIn_wide (n := 6)).1 ?_
  have hbl := hown.lt
  have hseq : SeqGives Fence.wide 2 Try.prog 182 #[.pointer (some ⟨w.heap.size, 0, none⟩)] encStr (fun ss => ss.Perm (strKeys D0)) (Maps.size D0) (w.alloc (.cells #[.map (some mb)] 120)) :=
    AnyZ.keys_gives (ρ := keysL_ren) { keysL with } Fence.wide _ trivial rfl (by omega) w.heap.size mb L.length D0 _ (by simp) (by simp) (by
      obtain ⟨es, clock, hb, Ft, hs, hD⟩ := hown
      exact ⟨es, clock, (Below.heap_alloc _ _ mb hbl).trans hb, Ft, hs, hD⟩)
  have cK : ∀ mb W, CallsIn Fence.wide 5 Try.prog 160 #[.map mb] W fun e w' => e = .returned (.func (.func 182) #[] #[.pointer (some ⟨W.heap.size, 0, none⟩)]) ∧ w' = W.alloc (.cells #[.map mb] 120) := fun mb W => AnyZ.keys_in keysL Fence.wide 5 trivial rfl mb W
  have cS := AnyZ.sorted_in sortedL Fence.wide 5 trivial trivial trivial trivial rfl (by omega) (sortsL _) (enters_of Try.func181 (by kernel_rfl) rfl) 182 #[.pointer (some ⟨w.heap.size, 0, none⟩)] trivial (enters_of Try.func182 (by kernel_rfl) rfl) _ _ (by rw [hsz]; unfold maxLen; omega) (by rw [hsz]; omega) _ hseq
  change CallsIn _ _ Try.prog 159 _ _ _ at cS
  have cN : CallsIn Fence.wide 5 Try.prog 108 #[.pointer (some ⟨q, 0, none⟩)] w fun e w' => e = .returned (.bool false) ∧ w' = w := callsIn_wide.2 (none_b H.out)
  have hfK : Fence.wide.fn 160 := trivial
  have hfS : Fence.wide.fn 159 := trivial
  have hfN : Fence.wide.fn 108 := trivial
  clear hseq hd hown h hperm hsorted
  refine callsIn_of_wp Try.func112 rfl trivial ?_ rfl
  simp only [Try.ntmps112, List.size_toArray, List.length_cons, List.length_nil, Nat.reduceAdd, Nat.reduceSub, Array.replicate_succ, Array.replicate_zero, List.push_toArray, List.append_toArray, List.nil_append, List.cons_append]
  gi_wp2_with (first
    | (gi_at_call 108; refine cN.mono ?_; rintro e w' ⟨rfl, rfl⟩)
    | (gi_at_call 160; refine (cK _ _).mono ?_; rintro e w' ⟨rfl, rfl⟩)
    | (gi_at_call 159; refine cS.mono ?_; rintro e w' ⟨v, ss, rfl, hS, hrow, hnil, hb⟩))
  go_ret
  have hpp : ss.Perm (L.map fun x => x.f.name) := hS.trans HP.out.1.symm
  have hms : (ss.mergeSort fun x y => decide (x ≤ y)) = L.map fun x => x.f.name := (mergeSort_of_perm hpp).trans (mergeSort_self HP.out.2.1)
  have hl : ss.length = L.length := by rw [hpp.length_eq, List.length_map]
  rw [hms, hl, List.map_map] at hrow
  refine ⟨v, rfl, ownsRow_base_a hrow (by simp), ?_, ((Below.refl _ _).alloc (Nat.le_refl _) _).trans (hb.mono (by simp))⟩
  rw [hnil, ← List.length_eq_zero_iff, ← List.length_eq_zero_iff, hl]
end Go.Proofs.Ytmkjejngnahpeaa
