/- The texts Fj, Eg, Eh, Ei, Fk, Fm, Fn, Fo in one. -/
import Derived.Test.YtmkjejngnahpeaaV5
import Derived.Test.YtmkjejngnahpeaaV7
import Derived.Test.YtmkjejngnahpeaaV6
import Derived.RangeFuncNested
import Derived.RangeFuncBound
import Derived.RangeFuncCalls
import Derived.RangeFuncLeaves
import Derived.RangeFuncFrom
import Derived.Shelf.Abstract
import Derived.Shelf.RegionOpen
import Derived.OwnWalkIn
import Derived.TacticsInMore
import Derived.LoopNIn
import Derived.LoopIn
import Derived.RangeFuncWrites
import Derived.Sort.MapsRangeIn
import Derived.Sort.CutIn
import Derived.Deep.RegionHeld3
/- Disk: All: what the disk tells of its files. -/
namespace Go.Proofs.Ytmkjejngnahpeaa
open Go Go.Maps Go.RowKit
open Go.Proofs (encStr)

/-- how a file is told: its cells -/
def fileCells (f : F0) : List Value := [encStr f.name, .int .i64 f.bytes.length, .int .i64 f.lasts, .bool f.there, .bool f.named]
def filesCells (l : List F0) : List Value := l.flatMap fileCells
theorem filesCells_snoc (l : List F0) (f : F0) : filesCells (l ++ [f]) = filesCells l ++ fileCells f := by simp [filesCells]
theorem filesCells_length : ∀ l : List F0, (filesCells l).length = l.length * 5
  | [] => rfl
  | f :: r => by
    have : filesCells (f :: r) = fileCells f ++ filesCells r := rfl
    rw [this, List.length_append, filesCells_length r]
    simp [fileCells]
    omega
theorem fileCells_one (f : F0) : ∀ v ∈ fileCells f, v.oneCell' = true := by
  intro v hv
  simp only [fileCells, List.mem_cons, List.not_mem_nil, or_false] at hv
  rcases hv with rfl | rfl | rfl | rfl | rfl <;> rfl
theorem info_file : (Try.prog.info? 78).map (fun i => (i.zero, i.size, i.bytes)) = some (some (.agg #[.string ⟨#[]⟩, .int .i64 0, .int .i64 0, .bool false, .bool false]), 5, 40) := by kernel_rfl
theorem five_row (w : World) (a b c d e : Value) : rowAt (w.alloc (.cells #[a, b, c, d, e] 78)) 78 5 (.slice (some ⟨w.heap.size, 0, none⟩) 1 1) 1 [a, b, c, d, e] :=
  ⟨rfl, .inr ⟨_, 0, 1, _, _, rfl, alloc_cells _ _ _, Nat.le_refl _, by unfold maxLen; omega, by simp, freeRow_zero _, rfl⟩⟩
/-- block vb holds the list of files that is gone over -/
def SeqAt (w : World) (vb : Nat) (l : List F0) : Prop := ∃ v, w.heap[vb]? = some (.cells #[v] 76 (0, 0)) ∧ rowAt w 78 5 v l.length (filesCells l)
theorem SeqAt.kept {w w' : World} {B vb : Nat} {l : List F0} (h : SeqAt w vb l) (hb : Below B w w') (hB : w.heap.size ≤ B) : SeqAt w' vb l := by
  obtain ⟨v, h1, h2⟩ := h
  exact ⟨v, (hb.block vb (Nat.lt_of_lt_of_le (Array.getElem?_eq_some_iff.1 h1).1 hB)).trans h1, h2.kept (fun k hk => hb.block k (Nat.lt_of_lt_of_le (h2.lt k hk) hB))⟩
set_option maxHeartbeats 400000 in
theorem valuesF_b (w : World) (oa : Option Addr) (n c : Nat) : Calls Try.prog 115 #[.slice oa n c] w fun e w' => e = .returned (.func (.func 161) #[] #[.pointer (some ⟨w.heap.size, 0, none⟩)]) ∧ w' = w.alloc (.cells #[.slice oa n c] 76) := by
  go_enter Try.func115, Try.ntmps115
  go_wp2_with fail
  go_ret
  exact ⟨rfl, rfl⟩
/-- what All hands back -/
def AllIs (w : World) (l : List F0) (e : Ending) (w' : World) : Prop :=
  ∃ vb, e = .returned (.func (.func 161) #[] #[.pointer (some ⟨vb, 0, none⟩)]) ∧ SeqAt w' vb l ∧ w.heap.size ≤ vb ∧ Below w.heap.size w w'
theorem wpList_append_file {w2 : World} {ops : Array Oper} {rest : List Oper} {o : Oper} {a : Act} {Q : Exit → Act → World → Prop} (hgd : o.guard = none) (s x : Operand)
    (ho : o.op = .call { callee := .builtin .append, args := #[s, x], argTypes := #[76, 76] })
    {oa : Option Addr} {m c : Nat} {xs : List Value} {nm : ByteArray} {a1 a2 a3 a4 : Value} (h : rowAt w2 78 5 (.slice oa m c) m xs) (hm : m ≤ 1000000) (h1 : ∀ v ∈ [.string nm, a1, a2, a3, a4], v.oneCell' = true)
    (hs : a.eval s = .slice oa m c) (hx : a.eval x = .slice (some ⟨w2.heap.size, 0, none⟩) 1 1)
    (hK : ∀ oa3 c3 w3, Hid (rowAt w3 78 5 (.slice oa3 (m + 1) c3) (m + 1) (xs ++ [.string nm, a1, a2, a3, a4])) → Hid ((w2.alloc (.cells #[.string nm, a1, a2, a3, a4] 78)).grownBy w3 (Value.slice oa m c).ownBlock) →
      Hid ((Value.slice oa3 (m + 1) c3).ownBlock = (Value.slice oa m c).ownBlock ∨ (Value.slice oa3 (m + 1) c3).ownBlock = some (w2.heap.size + 1)) → wpList Try.prog ops Q rest (a.put o.dst (.slice oa3 (m + 1) c3)) w3) :
    wpList Try.prog ops Q (o :: rest) a (w2.alloc (.cells #[.string nm, a1, a2, a3, a4] 78)) := by
  refine wpList_append_at _ hgd s x 76 76 ho 78 (.agg #[.string ⟨#[]⟩, .int .i64 0, .int .i64 0, .bool false, .bool false]) 5 40 Try.underlying76 info_file rfl _ m xs hs (h.kept (fun k hk => Below.heap_alloc _ _ k (h.lt k hk))) _ 1 _ hx (Src.of_row Try.underlying76 (five_row w2 (.string nm) a1 a2 a3 a4) h1) (by unfold maxLen; omega) (by omega) ?_
  intro v' w3 hr hg hown _
  obtain ⟨oa3, c3, rfl, _⟩ := hr.shape
  exact hK oa3 c3 w3 (Lib.hid hr) (Lib.hid hg) (Lib.hid (by simpa using hown))
set_option maxRecDepth 100000 in
set_option maxHeartbeats 1000000 in
theorem all_b {w : World} {S : Nat → Prop} {q : Nat} {d : Dk} (h : DiskAt w S q d) :
    Calls Try.prog 41 #[.pointer (some ⟨q, 0, none⟩)] w fun e w' => AllIs w d.files e w' := by
  obtain ⟨mb, fv, L, h⟩ := h
  have hlen : L.length ≤ 4096 := by
    have h1 := h.few
    rw [← h.files, List.length_map] at h1
    exact h1
  have H := Lib.hid h
  have HLN := Lib.hid hlen
  clear h
  go_enter Try.func41, Try.ntmps41
  go_wp2_with fail
  refine (names_b H.out).mono ?_
  rintro e w1 ⟨v, rfl, hrow, hnil, hb1⟩
  have hr1 := rowAt.of_row (hasRow.of_own hrow)
  have H1 := Lib.hid (H.out.below hb1)
  obtain ⟨oa, c, rfl, _⟩ := hr1.shape
  obtain ⟨n, hn⟩ : ∃ n, L.length = n := ⟨_, rfl⟩
  rw [hn] at hr1 HLN hlen ⊢
  have HR1 : Hid (rowAt w1 9 1 (.slice oa n c) n (encN L)) := Lib.hid hr1
  have HB1 := Lib.hid hb1
  have HN := Lib.hid hn
  clear hrow hnil hb1 hr1 hn
  go_wp2_with fail
  go_loopw [3, 9] (fun l i wr => ∃ (j m c' : Nat) (oa' : Option Addr), j ≤ n ∧ Hid (m = j) ∧ i = .int .i64 j ∧ l = .slice oa' m c' ∧ Hid (rowAt wr 78 5 (.slice oa' m c') m (filesCells ((L.take j).map (·.f)))) ∧ Hid (∀ k, (Value.slice oa' m c').ownBlock = some k → w1.heap.size ≤ k) ∧ Hid (Below w1.heap.size w1 wr)) (fun l i wr => n - (intOf i).toNat)
  case atStart => exact ⟨0, 0, 0, none, Nat.zero_le _, Lib.hid rfl, rfl, rfl, Lib.hid ⟨by simp [filesCells], .inl ⟨rfl, rfl⟩⟩, Lib.hid (fun k hk => by simp [Value.ownBlock] at hk), Lib.hid (Below.refl _ _)⟩
  case round =>
    obtain ⟨j, m, c', oa', hjn, hmj, rfl, rfl, HRO, HLO, HBL⟩ := hrel
    by_cases hlt : j < n
    · have hjL : j < L.length := by rw [HN.out]; exact hlt
      obtain ⟨x, hx⟩ : ∃ x, L[j] = x := ⟨_, rfl⟩
      have hxm : x ∈ L := by rw [← hx]; exact List.getElem_mem _
      have hr2 := HR1.out.kept (fun k hk => HBL.out.block k (HR1.out.lt k hk))
      obtain ⟨g, off, rfl⟩ := hr2.addr (by omega)
      have hcx : wr.cell? ⟨g, off + j, none⟩ = some (encStr x.f.name) := hr2.cell1 (by simp [encN, hjL, hx])
      have hdr := H1.out.below HBL.out
      obtain ⟨nm, hnm⟩ : ∃ nm : ByteArray, nm = ⟨x.f.name.toArray⟩ := ⟨_, rfl⟩
      have hnmd : nm.data.toList = x.f.name := by rw [hnm]
      have hsz : nm.size ≤ maxLen := by
        have h3 := hdr.names x.f (by rw [← hdr.files]; exact List.mem_map_of_mem hxm)
        simp only [nameOk, Bool.and_eq_true, decide_eq_true_eq] at h3
        have h4 : nm.size = x.f.name.length := by rw [← hnmd]; exact Array.length_toList.symm
        unfold maxLen
        omega
      have henc : encStr x.f.name = .string nm := by rw [hnm]
      rw [henc] at hcx
      have hlk := hdr.lookup1_some hxm hsz hnmd.symm
      have c0 : wr.cell? ⟨q, 0, none⟩ = some (.map (some mb)) := cell_of hdr.head rfl
      have HT : Hid (Calls Try.prog 114 #[.string nm, .pointer (some ⟨x.blk, 0, none⟩)] wr fun e w' => e = .returned (tellV nm x.f) ∧ Below wr.heap.size wr w') := Lib.hid (tell_b (hdr.each x hxm) nm)
      have HX : Hid (fileCells x.f = [.string nm, .int .i64 x.f.bytes.length, .int .i64 x.f.lasts, .bool x.f.there, .bool x.f.named]) := Lib.hid (by unfold fileCells; rw [henc])
      have HTK : Hid ((L.take (j + 1)).map (·.f) = (L.take j).map (·.f) ++ [x.f]) := Lib.hid (by rw [List.take_succ_eq_append_getElem hjL, List.map_append, hx]; rfl)
      obtain ⟨a1, ha1⟩ : ∃ a1 : Value, Value.int .i64 (x.f.bytes.length : Int) = a1 := ⟨_, rfl⟩
      obtain ⟨a2, ha2⟩ : ∃ a2 : Value, Value.int .i64 (x.f.lasts : Int) = a2 := ⟨_, rfl⟩
      obtain ⟨a3, ha3⟩ : ∃ a3 : Value, Value.bool x.f.there = a3 := ⟨_, rfl⟩
      obtain ⟨a4, ha4⟩ : ∃ a4 : Value, Value.bool x.f.named = a4 := ⟨_, rfl⟩
      rw [ha1, ha2, ha3, ha4] at HX
      unfold tellV at HT
      rw [ha1, ha2, ha3, ha4] at HT
      clear hx hxm hr2 hdr hnm hnmd hsz henc ha1 ha2 ha3 ha4
      go_wp2_with fail
      refine HT.out.mono ?_
      rintro e w2 ⟨rfl, hb2⟩
      have hrw := HRO.out.kept (fun k hk => hb2.block k (HRO.out.lt k hk))
      have HRW := Lib.hid hrw
      have HB2 := Lib.hid hb2
      clear hrw hb2
      have HM : Hid (m ≤ 1000000) := Lib.hid (by have := hmj.out; omega)
      go_wp2_with (at_builtin; refine wpList_append_file rfl (.tmp 13) (.tmp 22) rfl HRW.out HM.out (by rw [← HX.out]; exact fileCells_one x.f) rfl rfl ?_; intro oa3 c3 w3 HR3 HG3 HOW)
      have HB3 : Hid (Below w1.heap.size w1 w3) := Lib.hid (((HBL.out.trans (HB2.out.mono HBL.out.size)).alloc (Nat.le_trans HBL.out.size HB2.out.size) _).grown HG3.out (by simp; have h1 := HBL.out.size; have h2 := HB2.out.size; omega) (fun k hk => HLO.out k hk))
      have HRN : Hid (rowAt w3 78 5 (.slice oa3 (m + 1) c3) (m + 1) (filesCells ((L.take (j + 1)).map (·.f)))) := Lib.hid (by rw [HTK.out, filesCells_snoc, HX.out]; exact HR3.out)
      have HLN2 : Hid (∀ k, (Value.slice oa3 (m + 1) c3).ownBlock = some k → w1.heap.size ≤ k) := Lib.hid (fun k hk => by
        rcases HOW.out with h1 | h1
        · exact HLO.out k (by rw [← h1]; exact hk)
        · rw [hk] at h1
          simp at h1
          have h2 := HBL.out.size
          have h3 := HB2.out.size
          omega)
      exact ⟨⟨j + 1, m + 1, c3, oa3, by omega, Lib.hid (by have := hmj.out; omega), by simp, rfl, HRN, HLN2, HB3⟩, by simp [intOf]; omega⟩
    · obtain rfl : j = n := by omega
      have HRF : Hid (rowAt wr 78 5 (.slice oa' m c') m (filesCells d.files) ∧ m = d.files.length) := Lib.hid (by
        have h1 := HRO.out
        rw [List.take_of_length_le (by rw [HN.out]; exact Nat.le_refl _), H1.out.files] at h1
        exact ⟨h1, by rw [hmj.out, ← H1.out.files, List.length_map, HN.out]⟩)
      go_wp2_with fail
      refine (valuesF_b _ _ _ _).mono ?_
      rintro e w3 ⟨rfl, rfl⟩
      have HS : Hid (AllIs w d.files (.returned (.func (.func 161) #[] #[.pointer (some ⟨wr.heap.size, 0, none⟩)])) (wr.alloc (.cells #[.slice oa' m c'] 76))) := Lib.hid (by
        have h1 := HB1.out.size
        have h2 := HBL.out.size
        refine ⟨wr.heap.size, rfl, ⟨_, alloc_cells _ _ _, ?_⟩, by omega, (HB1.out.trans (HBL.out.mono h1)).alloc (by omega) _⟩
        rw [← HRF.out.2]
        exact HRF.out.1.kept (fun k hk => Below.heap_alloc _ _ k (HRF.out.1.lt k hk)))
      clear HRF
      go_wp2_with fail
      go_ret
      exact HS.out
end Go.Proofs.Ytmkjejngnahpeaa
/- Disk: a disk that is not there. -/
namespace Go.Proofs.Ytmkjejngnahpeaa
open Go Go.Maps Go.RowKit

/-- there is no disk: a nil pointer, or a disk without a map -/
def IsNone (w : World) (pp : Option Addr) : Prop := pp = none ∨ ∃ q, pp = some ⟨q, 0, none⟩ ∧ w.cell? ⟨q, 0, none⟩ = some (.map none)
theorem IsNone.below {w w' : World} {pp : Option Addr} (h : IsNone w pp) (hb : Below w.heap.size w w') : IsNone w' pp := by
  rcases h with h | ⟨q, h, hc⟩
  · exact .inl h
  · exact .inr ⟨q, h, (hb.cell (p := ⟨q, 0, none⟩) (World.block_lt_of_cell? w _ hc)).trans hc⟩
theorem map_nil_eq (W : World) : (binOp .eql 120 (.map none) (.map none)).run Try.prog W = .ok (.bool true) W := by kernel_rfl
set_option maxHeartbeats 400000 in
theorem none_nil {w : World} {pp : Option Addr} (h : IsNone w pp) : Calls Try.prog 108 #[.pointer pp] w fun e w' => e = .returned (.bool true) ∧ w' = w := by
  have hm := map_nil_eq
  rcases h with rfl | ⟨q, rfl, c0⟩
  · go_enter Try.func108, Try.ntmps108
    go_wp2_with fail
    go_ret
    exact ⟨rfl, rfl⟩
  · go_enter Try.func108, Try.ntmps108
    go_wp2_with fail
    go_ret
    exact ⟨rfl, rfl⟩
set_option maxHeartbeats 400000 in
theorem asked_nil {w : World} {pp : Option Addr} (h : IsNone w pp) (nm : ByteArray) : Calls Try.prog 118 #[.pointer pp, .string nm] w fun e w' => e = .returned (.int .i64 1) ∧ w' = w := by
  go_enter Try.func118, Try.ntmps118
  go_wp2_with fail
  refine (none_nil h).mono ?_
  rintro e w' ⟨rfl, rfl⟩
  go_wp2_with fail
  go_ret
  exact ⟨rfl, rfl⟩
set_option maxHeartbeats 400000 in
theorem find_nil {w : World} {pp : Option Addr} (h : IsNone w pp) (nm : ByteArray) : Calls Try.prog 116 #[.pointer pp, .string nm] w fun e w' => e = .returned (.tuple #[.pointer none, .int .i64 1]) ∧ w' = w := by
  go_enter Try.func116, Try.ntmps116
  go_wp2_with fail
  refine (asked_nil h nm).mono ?_
  rintro e w' ⟨rfl, rfl⟩
  go_wp2_with fail
  go_ret2
  exact ⟨rfl, rfl⟩
set_option maxHeartbeats 400000 in
theorem create_nil {w : World} {pp : Option Addr} (h : IsNone w pp) (nm : ByteArray) : Calls Try.prog 45 #[.pointer pp, .string nm] w fun e w' => e = .returned (.int .i64 1) ∧ w' = w := by
  go_enter Try.func45, Try.ntmps45
  go_wp2_with fail
  refine (asked_nil h nm).mono ?_
  rintro e w' ⟨rfl, rfl⟩
  go_wp2_with fail
  go_ret
  exact ⟨rfl, rfl⟩
set_option maxHeartbeats 400000 in
theorem append_nil {w : World} {pp : Option Addr} (h : IsNone w pp) (nm : ByteArray) (b : Value) : Calls Try.prog 46 #[.pointer pp, .string nm, b] w fun e w' => e = .returned (.int .i64 1) ∧ w' = w := by
  go_enter Try.func46, Try.ntmps46
  go_wp2_with fail
  refine (find_nil h nm).mono ?_
  rintro e w' ⟨rfl, rfl⟩
  go_wp2_with fail
  go_ret
  exact ⟨rfl, rfl⟩
set_option maxHeartbeats 400000 in
theorem sync_nil {w : World} {pp : Option Addr} (h : IsNone w pp) (nm : ByteArray) : Calls Try.prog 47 #[.pointer pp, .string nm] w fun e w' => e = .returned (.int .i64 1) ∧ w' = w := by
  go_enter Try.func47, Try.ntmps47
  go_wp2_with fail
  refine (find_nil h nm).mono ?_
  rintro e w' ⟨rfl, rfl⟩
  go_wp2_with fail
  go_ret
  exact ⟨rfl, rfl⟩
set_option maxHeartbeats 400000 in
theorem cut_nil {w : World} {pp : Option Addr} (h : IsNone w pp) (nm : ByteArray) (b : Value) : Calls Try.prog 49 #[.pointer pp, .string nm, b] w fun e w' => e = .returned (.int .i64 1) ∧ w' = w := by
  go_enter Try.func49, Try.ntmps49
  go_wp2_with fail
  refine (find_nil h nm).mono ?_
  rintro e w' ⟨rfl, rfl⟩
  go_wp2_with fail
  go_ret
  exact ⟨rfl, rfl⟩
set_option maxHeartbeats 400000 in
theorem remove_nil {w : World} {pp : Option Addr} (h : IsNone w pp) (nm : ByteArray) : Calls Try.prog 50 #[.pointer pp, .string nm] w fun e w' => e = .returned (.int .i64 1) ∧ w' = w := by
  go_enter Try.func50, Try.ntmps50
  go_wp2_with fail
  refine (find_nil h nm).mono ?_
  rintro e w' ⟨rfl, rfl⟩
  go_wp2_with fail
  go_ret
  exact ⟨rfl, rfl⟩
set_option maxHeartbeats 400000 in
theorem syncdir_nil {w : World} {pp : Option Addr} (h : IsNone w pp) : Calls Try.prog 48 #[.pointer pp] w fun e w' => e = .returned (.int .i64 1) ∧ w' = w := by
  go_enter Try.func48, Try.ntmps48
  go_wp2_with fail
  refine (none_nil h).mono ?_
  rintro e w' ⟨rfl, rfl⟩
  go_wp2_with fail
  go_ret
  exact ⟨rfl, rfl⟩
set_option maxHeartbeats 400000 in
theorem feed_nil {w : World} {pp : Option Addr} (h : IsNone w pp) (b : Value) : Calls Try.prog 64 #[.pointer pp, b] w fun e w' => e = .returned (.int .i64 1) ∧ w' = w := by
  go_enter Try.func64, Try.ntmps64
  go_wp2_with fail
  refine (none_nil h).mono ?_
  rintro e w' ⟨rfl, rfl⟩
  go_wp2_with fail
  go_ret
  exact ⟨rfl, rfl⟩
set_option maxHeartbeats 400000 in
theorem read_nil {w : World} {pp : Option Addr} (h : IsNone w pp) (nm : ByteArray) (a n : Value) : Calls Try.prog 42 #[.pointer pp, .string nm, a, n] w fun e w' => e = .returned (.tuple #[.slice none 0 0, .int .i64 1]) ∧ w' = w := by
  go_enter Try.func42, Try.ntmps42
  go_wp2_with fail
  refine (find_nil h nm).mono ?_
  rintro e w' ⟨rfl, rfl⟩
  go_wp2_with fail
  go_ret2
  exact ⟨rfl, rfl⟩
set_option maxHeartbeats 400000 in
theorem steps_nil {w : World} {pp : Option Addr} (h : IsNone w pp) : Calls Try.prog 44 #[.pointer pp] w fun e w' => e = .returned (.tuple #[.int .i64 0, .int .i64 0]) ∧ w' = w := by
  go_enter Try.func44, Try.ntmps44
  go_wp2_with fail
  refine (none_nil h).mono ?_
  rintro e w' ⟨rfl, rfl⟩
  go_wp2_with fail
  go_ret2
  exact ⟨rfl, rfl⟩
set_option maxHeartbeats 400000 in
theorem names_nil {w : World} {pp : Option Addr} (h : IsNone w pp) : Calls Try.prog 112 #[.pointer pp] w fun e w' => e = .returned (.slice none 0 0) ∧ w' = w := by
  go_enter Try.func112, Try.ntmps112
  go_wp2_with fail
  refine (none_nil h).mono ?_
  rintro e w' ⟨rfl, rfl⟩
  go_wp2_with fail
  go_ret
  exact ⟨rfl, rfl⟩
set_option maxHeartbeats 400000 in
theorem copy_nil {w : World} {pp : Option Addr} (h : IsNone w pp) : Calls Try.prog 43 #[.pointer pp] w fun e w' => e = .returned (.pointer none) ∧ w' = w := by
  go_enter Try.func43, Try.ntmps43
  go_wp2_with fail
  refine (none_nil h).mono ?_
  rintro e w' ⟨rfl, rfl⟩
  go_wp2_with fail
  go_ret
  exact ⟨rfl, rfl⟩
end Go.Proofs.Ytmkjejngnahpeaa
/- Disk: a disk that is not there: Same, Crash, File, Names. -/
namespace Go.Proofs.Ytmkjejngnahpeaa
open Go Go.Maps Go.RowKit

set_option maxHeartbeats 400000 in
theorem same_nn {w : World} {pp qq : Option Addr} (h : IsNone w pp) (k : IsNone w qq) : Calls Try.prog 51 #[.pointer pp, .pointer qq] w fun e w' => e = .returned (.bool true) ∧ w' = w := by
  go_enter Try.func51, Try.ntmps51
  go_wp2_with fail
  refine (none_nil h).mono ?_
  rintro e w' ⟨rfl, rfl⟩
  go_wp2_with fail
  refine (none_nil h).mono ?_
  rintro e w' ⟨rfl, rfl⟩
  go_wp2_with fail
  refine (none_nil k).mono ?_
  rintro e w' ⟨rfl, rfl⟩
  go_wp2_with fail
  go_ret
  exact ⟨rfl, rfl⟩
theorem none_at {w : World} {S : Nat → Prop} {q : Nat} {d : Dk} (h : DiskAt w S q d) :
    Calls Try.prog 108 #[.pointer (some ⟨q, 0, none⟩)] w fun e w' => e = .returned (.bool false) ∧ w' = w := by
  obtain ⟨mb, fv, L, h⟩ := h
  exact none_b h
set_option maxHeartbeats 400000 in
theorem same_nd {w : World} {pp : Option Addr} {S : Nat → Prop} {q : Nat} {d : Dk} (h : IsNone w pp) (k : DiskAt w S q d) : Calls Try.prog 51 #[.pointer pp, .pointer (some ⟨q, 0, none⟩)] w fun e w' => e = .returned (.bool false) ∧ w' = w := by
  go_enter Try.func51, Try.ntmps51
  go_wp2_with fail
  refine (none_nil h).mono ?_
  rintro e w' ⟨rfl, rfl⟩
  go_wp2_with fail
  refine (none_nil h).mono ?_
  rintro e w' ⟨rfl, rfl⟩
  go_wp2_with fail
  refine (none_at k).mono ?_
  rintro e w' ⟨rfl, rfl⟩
  go_wp2_with fail
  go_ret
  exact ⟨rfl, rfl⟩
set_option maxHeartbeats 400000 in
theorem same_dn {w : World} {pp : Option Addr} {S : Nat → Prop} {q : Nat} {d : Dk} (h : IsNone w pp) (k : DiskAt w S q d) : Calls Try.prog 51 #[.pointer (some ⟨q, 0, none⟩), .pointer pp] w fun e w' => e = .returned (.bool false) ∧ w' = w := by
  go_enter Try.func51, Try.ntmps51
  go_wp2_with fail
  refine (none_at k).mono ?_
  rintro e w' ⟨rfl, rfl⟩
  go_wp2_with fail
  refine (none_nil h).mono ?_
  rintro e w' ⟨rfl, rfl⟩
  go_wp2_with fail
  refine (none_at k).mono ?_
  rintro e w' ⟨rfl, rfl⟩
  go_wp2_with fail
  go_ret
  exact ⟨rfl, rfl⟩
set_option maxHeartbeats 400000 in
theorem crash_nil {w : World} {pp : Option Addr} (h : IsNone w pp) : Calls Try.prog 40 #[.pointer pp, .agg #[.slice none 0 0]] w fun e w' => e = .returned (.tuple #[.pointer none, .int .i64 1]) ∧ Below w.heap.size w w' := by
  go_enter Try.func40, Try.ntmps40
  go_upto_region 1 with fail
  obtain ⟨w1, hw1⟩ : ∃ w1 : World, w1 = w.alloc (.cells #[.slice none 0 0] 72) := ⟨_, rfl⟩
  have hb1 : Below w.heap.size w w1 := by rw [hw1]; exact (Below.refl _ _).alloc (Nat.le_refl _) _
  rw [← hw1]
  have HB1 := Lib.hid hb1
  have H1 := Lib.hid (h.below hb1)
  clear hw1 hb1 h
  go_wp2_with fail
  refine (none_nil H1.out).mono ?_
  rintro e w' ⟨rfl, rfl⟩
  go_wp2_with fail
  go_ret2
  exact ⟨rfl, HB1.out⟩
set_option maxHeartbeats 400000 in
theorem indexStr_nil (f : Value) (w : World) : Calls Try.prog 164 #[.slice none 0 0, f] w fun e w' => e = .returned (.int .i64 (-1)) ∧ w' = w := by
  go_enter Try.func164, Try.ntmps164
  go_wp2_with fail
  go_loop [8] (fun i => i = .int .i64 0) (fun _ => 0)
  case atStart => rfl
  case round =>
    subst hrel
    go_wp2_with fail
    go_ret
    exact ⟨rfl, rfl⟩
set_option maxHeartbeats 400000 in
theorem deleteStr_nil (f : Value) (w : World) : Calls Try.prog 125 #[.slice none 0 0, f] w fun e w' => e = .returned (.slice none 0 0) ∧ w' = w := by
  go_enter Try.func125, Try.ntmps125
  go_wp2_with fail
  refine (indexStr_nil f _).mono ?_
  rintro e w' ⟨rfl, rfl⟩
  go_wp2_with fail
  go_ret
  exact ⟨rfl, rfl⟩
set_option maxHeartbeats 400000 in
theorem Names_nil {w : World} {pp : Option Addr} (h : IsNone w pp) : Calls Try.prog 52 #[.pointer pp] w fun e w' => e = .returned (.slice none 0 0) ∧ Below w.heap.size w w' := by
  go_enter Try.func52, Try.ntmps52
  go_upto_region 1 with fail
  obtain ⟨w1, hw1⟩ : ∃ w1 : World, w1 = w.alloc (.cells #[.pointer pp] 37) := ⟨_, rfl⟩
  obtain ⟨b, hb⟩ : ∃ b, b = w.heap.size := ⟨_, rfl⟩
  have hc1 : w1.heap[b]? = some (.cells #[.pointer pp] 37 (0, 0)) := by rw [hw1, hb]; exact alloc_cells _ _ _
  have hb1 : Below w.heap.size w w1 := by rw [hw1]; exact (Below.refl _ _).alloc (Nat.le_refl _) _
  rw [← hb, ← hw1]
  have HB1 := Lib.hid hb1
  have H1 := Lib.hid (h.below hb1)
  clear hw1 hb hb1 h
  have c0 : w1.cell? ⟨b, 0, none⟩ = some (.pointer pp) := cell_of hc1 rfl
  go_wp2_with fail
  refine (names_nil H1.out).mono ?_
  rintro e w' ⟨rfl, rfl⟩
  go_wp2_with fail
  refine (deleteStr_nil _ _).mono ?_
  rintro e w' ⟨rfl, rfl⟩
  go_wp2_with fail
  go_ret
  exact ⟨rfl, HB1.out⟩
set_option maxRecDepth 100000 in
set_option maxHeartbeats 1000000 in
theorem file_nil {w : World} {pp : Option Addr} (h : IsNone w pp) (nm : ByteArray) : Calls Try.prog 62 #[.pointer pp, .string nm] w fun e w' => e = .returned (.tuple #[.agg #[.string ⟨#[]⟩, .int .i64 0, .int .i64 0, .bool false, .bool false], .int .i64 1]) ∧ Below w.heap.size w w' := by
  go_enter Try.func62, Try.ntmps62
  go_upto_region 1 with fail
  obtain ⟨w1, hw1⟩ : ∃ w1 : World, w1 = w.alloc (.cells #[.string ⟨#[]⟩, .int .i64 0, .int .i64 0, .bool false, .bool false] 78) := ⟨_, rfl⟩
  obtain ⟨r, hr⟩ : ∃ r, r = w.heap.size := ⟨_, rfl⟩
  have hr1 : w1.heap[r]? = some (.cells #[.string ⟨#[]⟩, .int .i64 0, .int .i64 0, .bool false, .bool false] 78 (0, 0)) := by rw [hw1, hr]; exact alloc_cells _ _ _
  have hb1 : Below w.heap.size w w1 := by rw [hw1]; exact (Below.refl _ _).alloc (Nat.le_refl _) _
  have HB1 : Hid (Below r w w1) := Lib.hid (by rw [hr]; exact hb1)
  have H1 := Lib.hid (h.below hb1)
  rw [← hr, ← hw1]
  have HRR := Lib.hid hr
  clear hw1 hr h hb1
  have r0 : w1.cell? ⟨r, 0, none⟩ = some (.string ⟨#[]⟩) := cell_of hr1 rfl
  have z0 : w1.frozen? ⟨r, 0, none⟩ = false := free_of hr1 _
  have r1 : w1.cell? ⟨r, 1, none⟩ = some (.int .i64 0) := cell_of hr1 rfl
  have z1 : w1.frozen? ⟨r, 1, none⟩ = false := free_of hr1 _
  have r2 : w1.cell? ⟨r, 2, none⟩ = some (.int .i64 0) := cell_of hr1 rfl
  have z2 : w1.frozen? ⟨r, 2, none⟩ = false := free_of hr1 _
  have r3 : w1.cell? ⟨r, 3, none⟩ = some (.bool false) := cell_of hr1 rfl
  have z3 : w1.frozen? ⟨r, 3, none⟩ = false := free_of hr1 _
  have r4 : w1.cell? ⟨r, 4, none⟩ = some (.bool false) := cell_of hr1 rfl
  have z4 : w1.frozen? ⟨r, 4, none⟩ = false := free_of hr1 _
  have HR1 := Lib.hid hr1
  clear hr1
  go_wp2_with fail
  refine (asked_nil H1.out nm).mono ?_
  rintro e w' ⟨rfl, rfl⟩
  go_wp2_with fail
  obtain ⟨w2, hw2⟩ : ∃ w2 : World, w2 = (((((w'.setCell ⟨r, 0, none⟩ (.string ⟨#[]⟩)).setCell ⟨r, 1, none⟩ (.int .i64 0)).setCell ⟨r, 2, none⟩ (.int .i64 0)).setCell ⟨r, 3, none⟩ (.bool false)).setCell ⟨r, 4, none⟩ (.bool false)) := ⟨_, rfl⟩
  have hr2 : w2.heap[r]? = some (.cells #[.string ⟨#[]⟩, .int .i64 0, .int .i64 0, .bool false, .bool false] 78 (0, 0)) := by
    rw [hw2]; exact heap_setCell_here _ (heap_setCell_here _ (heap_setCell_here _ (heap_setCell_here _ (heap_setCell_here _ HR1.out))))
  have hb2 : Below r w w2 := by
    rw [hw2]
    exact (((((HB1.out.setCell (p := ⟨r, 0, none⟩) (Nat.le_refl _) _).setCell (p := ⟨r, 1, none⟩) (Nat.le_refl _) _).setCell (p := ⟨r, 2, none⟩) (Nat.le_refl _) _).setCell (p := ⟨r, 3, none⟩) (Nat.le_refl _) _).setCell (p := ⟨r, 4, none⟩) (Nat.le_refl _) _)
  rw [← hw2]
  have s0 : w2.cell? ⟨r, 0, none⟩ = some (.string ⟨#[]⟩) := cell_of hr2 rfl
  have s1 : w2.cell? ⟨r, 1, none⟩ = some (.int .i64 0) := cell_of hr2 rfl
  have s2 : w2.cell? ⟨r, 2, none⟩ = some (.int .i64 0) := cell_of hr2 rfl
  have s3 : w2.cell? ⟨r, 3, none⟩ = some (.bool false) := cell_of hr2 rfl
  have s4 : w2.cell? ⟨r, 4, none⟩ = some (.bool false) := cell_of hr2 rfl
  refine bodyPost_ret (v := .tuple #[.agg #[.string ⟨#[]⟩, .int .i64 0, .int .i64 0, .bool false, .bool false], .int .i64 1]) (by simp [results, Try.results62, go_sem, s0, s1, s2, s3, s4]) rfl ⟨rfl, ?_⟩
  rw [← HRR.out]
  exact hb2
end Go.Proofs.Ytmkjejngnahpeaa
/- Disk: going over no files; law07's nothing. -/
namespace Go.Proofs.Ytmkjejngnahpeaa
open Go Go.Maps Go.RowKit Go.Shelf
attribute [local go_sem] Oper.semAt_some

set_option maxHeartbeats 400000 in
theorem values_b (w : World) : Calls Try.prog 115 #[.slice none 0 0] w fun e w' => e = .returned (.func (.func 161) #[] #[.pointer (some ⟨w.heap.size, 0, none⟩)]) ∧ w' = w.alloc (.cells #[.slice none 0 0] 76) := by
  go_enter Try.func115, Try.ntmps115
  go_wp2_with fail
  go_ret
  exact ⟨rfl, rfl⟩
set_option maxRecDepth 100000 in
set_option maxHeartbeats 400000 in
theorem all_nil {w : World} {pp : Option Addr} (h : IsNone w pp) : Calls Try.prog 41 #[.pointer pp] w fun e w' => e = .returned (.func (.func 161) #[] #[.pointer (some ⟨w.heap.size, 0, none⟩)]) ∧ w' = w.alloc (.cells #[.slice none 0 0] 76) := by
  go_enter Try.func41, Try.ntmps41
  go_wp2_with fail
  refine (names_nil h).mono ?_
  rintro e w' ⟨rfl, rfl⟩
  go_wp2_with fail
  go_loop [3, 9] (fun l i => l = .slice none 0 0 ∧ i = .int .i64 0) (fun _ _ => 0)
  case atStart => exact ⟨rfl, rfl⟩
  case round =>
    obtain ⟨rfl, rfl⟩ := hrel
    go_wp2_with fail
    refine (values_b _).mono ?_
    rintro e w' ⟨rfl, rfl⟩
    go_wp2_with fail
    go_ret
    exact ⟨rfl, rfl⟩
set_option maxRecDepth 100000 in
set_option maxHeartbeats 1000000 in
theorem values1_nil_in (F : Fence) (n : Nat) (h7 : F.fn 161) (hro : F.round = none) (l Bs : Nat) (J : List Unit → World → Prop) (W : World) (hBs : W.cell? ⟨Bs, 0, none⟩ = some (.slice none 0 0)) (h0 : J [] W) :
    CallsIn F n Try.prog 161 #[.func (.yield l) #[] #[], .pointer (some ⟨Bs, 0, none⟩)] W fun e W' => (∃ v, e = .returned v) ∧ J [] W' := by
  refine callsIn_of_wp Try.func161 rfl h7 ?_ hro
  simp only [Try.ntmps161, List.size_toArray, List.length_cons, List.length_nil, Nat.reduceAdd, Nat.reduceSub, Array.replicate_succ, Array.replicate_zero, List.push_toArray, List.append_toArray, List.nil_append, List.cons_append]
  gi_wp2
  gi_loopw [7] (fun i wr => i = .int .i64 0 ∧ J [] wr) (fun _ _ => 0)
  case atStart => exact ⟨rfl, h0⟩
  case round =>
    obtain ⟨rfl, hJs⟩ := hrel
    gi_wp2
    go_end0
    exact ⟨⟨_, rfl⟩, hJs⟩
/-- of no files none comes -/
theorem values_stops_nil (F : Fence) (n : Nat) (h7 : F.fn 161) (hro : F.round = none) (Bs n₀ : Nat) (w : World) (hBs : Bs < w.heap.size)
    (hc : w.cell? ⟨Bs, 0, none⟩ = some (.slice none 0 0)) :
    SeqStopsK F n Try.prog 161 #[.pointer (some ⟨Bs, 0, none⟩)] (fun _ : Unit => #[undef]) (Below n₀) (fun ys => ys = []) (fun _ => False) 0 w := fun l J _ W hW _ _ _ h0 =>
  (values1_nil_in F n h7 hro l Bs J W ((hW.cell (p := ⟨Bs, 0, none⟩) hBs).trans hc) h0).mono fun _ _ ⟨he, hj⟩ => ⟨he, .inl ⟨_, rfl, hj⟩⟩
end Go.Proofs.Ytmkjejngnahpeaa
/- Disk: going over what All tells. -/
namespace Go.Proofs.Ytmkjejngnahpeaa
open Go Go.Maps Go.RowKit Go.Shelf
open Go.Proofs (encStr)
attribute [local go_sem] Oper.semAt_some

def fileV (f : F0) : Value := .agg #[encStr f.name, .int .i64 f.bytes.length, .int .i64 f.lasts, .bool f.there, .bool f.named]
theorem filesCells_get : ∀ {l : List F0} {j i : Nat} (hj : j < l.length) (_ : i < 5), (filesCells l)[j * 5 + i]? = (fileCells l[j])[i]?
  | f :: r, 0, i, _, hi => by
    have : filesCells (f :: r) = fileCells f ++ filesCells r := rfl
    rw [this, List.getElem?_append_left (by simp [fileCells]; omega)]
    simp
  | f :: r, j + 1, i, hj, hi => by
    have : filesCells (f :: r) = fileCells f ++ filesCells r := rfl
    have h5 : (fileCells f).length = 5 := by simp [fileCells]
    rw [this, List.getElem?_append_right (by omega), h5, show (j + 1) * 5 + i - 5 = j * 5 + i by omega, filesCells_get (by simpa using hj) hi]
    simp
set_option maxRecDepth 100000 in
set_option maxHeartbeats 1000000 in
theorem filesIn (F : Fence) (n : Nat) (h7 : F.fn 161) (hro : F.round = none) (hn : 1 ≤ n) (l vb : Nat) (w : World) (fs : List F0) (hsq : SeqAt w vb fs) (hfs : fs.length ≤ 1000000) (J Jx : List F0 → World → Prop) (W : World) (hW : Below w.heap.size w W)
    (hJ : AbidesFrom W.heap.size J)
    (hY : ∀ pre x W1, J pre W1 → pre.length < fs.length → YieldAt F (n - 1) Try.prog l #[fileV x] W1 fun e W' =>
      (e = .returned (.bool true) ∧ J (pre ++ [x]) W' ∧ Below w.heap.size W1 W') ∨ (e = .returned (.bool false) ∧ Jx (pre ++ [x]) W')) (h0 : J [] W) :
    CallsIn F n Try.prog 161 #[.func (.yield l) #[] #[], .pointer (some ⟨vb, 0, none⟩)] W fun e W' => (∃ v, e = .returned v) ∧ (J fs W' ∨ ∃ pre, (∃ r, fs = pre ++ r) ∧ Jx pre W') := by
  obtain ⟨v, hv, hrow⟩ := hsq
  obtain ⟨oa, c, rfl, hnc⟩ := hrow.shape
  obtain ⟨N, hN⟩ : ∃ N, fs.length = N := ⟨_, rfl⟩
  rw [hN] at hv hrow hnc hfs
  have cv : W.cell? ⟨vb, 0, none⟩ = some (.slice oa N c) := cell_of ((hW.block vb (Array.getElem?_eq_some_iff.1 hv).1).trans hv) rfl
  have HR := Lib.hid hrow
  have HN := Lib.hid hN
  have HY := Lib.hid hY
  have HJ := Lib.hid hJ
  have HW := Lib.hid hW
  clear hv hrow hN hY hJ hW
  refine callsIn_of_wp Try.func161 rfl h7 ?_ hro
  simp only [Try.ntmps161, List.size_toArray, List.length_cons, List.length_nil, Nat.reduceAdd, Nat.reduceSub, Array.replicate_succ, Array.replicate_zero, List.push_toArray, List.append_toArray, List.nil_append, List.cons_append]
  gi_wp2
  gi_loopw [7] (fun i wr => ∃ j : Nat, j ≤ N ∧ i = .int .i64 j ∧ J (fs.take j) wr ∧ Below w.heap.size w wr ∧ W.heap.size ≤ wr.heap.size) (fun i wr => N - (intOf i).toNat)
  case atStart => exact ⟨0, Nat.zero_le _, rfl, by simpa using h0, HW.out, Nat.le_refl _⟩
  case round =>
    obtain ⟨j, hj, rfl, hJs, hbw, hWr⟩ := hrel
    by_cases hlt : j < N
    · have hjf : j < fs.length := by rw [HN.out]; exact hlt
      have hrw := HR.out.kept (fun k hk => hbw.block k (HR.out.lt k hk))
      obtain ⟨g, off, rfl⟩ := hrw.addr (by omega)
      obtain ⟨x, hx⟩ : ∃ x, fs[j] = x := ⟨_, rfl⟩
      have hcell : ∀ i, i < 5 → ∀ u, (fileCells x)[i]? = some u → wr.cell? ⟨g, off + (j * 5 + i), none⟩ = some u := fun i hi u hu => by
        have := hrw.cells (g := g) (off := off) rfl (j * 5 + i) u (by rw [filesCells_get hjf hi, hx, hu])
        simpa [Go.WideShapes.add_plain] using this
      have k0 : wr.cell? ⟨g, off + j * 5, none⟩ = some (encStr x.name) := hcell 0 (by omega) _ rfl
      have k1 : wr.cell? ⟨g, off + j * 5 + 1, none⟩ = some (.int .i64 x.bytes.length) := hcell 1 (by omega) _ rfl
      have k2 : wr.cell? ⟨g, off + j * 5 + 2, none⟩ = some (.int .i64 x.lasts) := hcell 2 (by omega) _ rfl
      have k3 : wr.cell? ⟨g, off + j * 5 + 3, none⟩ = some (.bool x.there) := hcell 3 (by omega) _ rfl
      have k4 : wr.cell? ⟨g, off + j * 5 + 4, none⟩ = some (.bool x.named) := hcell 4 (by omega) _ rfl
      obtain ⟨a0, ha0⟩ : ∃ a : ByteArray, encStr x.name = .string a := ⟨_, rfl⟩
      obtain ⟨a1, ha1⟩ : ∃ a : Int, (x.bytes.length : Int) = a := ⟨_, rfl⟩
      obtain ⟨a2, ha2⟩ : ∃ a : Int, (x.lasts : Int) = a := ⟨_, rfl⟩
      obtain ⟨a3, ha3⟩ : ∃ a, x.there = a := ⟨_, rfl⟩
      obtain ⟨a4, ha4⟩ : ∃ a, x.named = a := ⟨_, rfl⟩
      have HV : Hid (fileV x = .agg #[.string a0, .int .i64 a1, .int .i64 a2, .bool a3, .bool a4]) := Lib.hid (by unfold fileV; rw [ha0, ha1, ha2, ha3, ha4])
      rw [ha0] at k0; rw [ha1] at k1; rw [ha2] at k2; rw [ha3] at k3; rw [ha4] at k4
      have HX := Lib.hid hx
      have HJS := Lib.hid hJs
      have HBW := Lib.hid hbw
      obtain ⟨w2, hw2⟩ : ∃ w2 : World, w2 = wr.alloc (.cells #[.string a0, .int .i64 a1, .int .i64 a2, .bool a3, .bool a4] 78) := ⟨_, rfl⟩
      have hg2 : wr.grownBy w2 none := by rw [hw2]; exact World.grownBy_alloc _ _ _
      have hJ2 : J (fs.take j) w2 := HJ.out (fs.take j) wr w2 none hJs hg2 (fun r e => by cases e)
      obtain ⟨fn, tmps, assign, body, hy, hR⟩ := HY.out (fs.take j) x w2 hJ2 (by rw [List.length_take]; omega)
      rw [HV.out] at hy
      have HRD := Lib.hid hR
      have HB2 : Hid (Below w.heap.size w w2 ∧ W.heap.size ≤ w2.heap.size) := Lib.hid ⟨hbw.trans ((below_grown hg2).mono hbw.size), Nat.le_trans hWr hg2.size⟩
      have HTK : Hid (fs.take (j + 1) = fs.take j ++ [x]) := Lib.hid (by rw [List.take_succ_eq_append_getElem hjf, hx])
      clear hcell hrw hx hJs hbw ha0 ha1 ha2 ha3 ha4 hJ2 hg2 hR HJS
      subst hw2
      gi_wp2
      refine HRD.out.mono ?_
      rintro e W3 (⟨rfl, hJ3, hk3⟩ | ⟨rfl, hJx3⟩)
      · have HJ3 : Hid (J (fs.take (j + 1)) W3) := Lib.hid (by rw [HTK.out]; exact hJ3)
        have HB3 : Hid (Below w.heap.size w W3 ∧ W.heap.size ≤ W3.heap.size) := Lib.hid ⟨HB2.out.1.trans hk3, Nat.le_trans HB2.out.2 hk3.size⟩
        clear hJ3 hk3
        gi_wp2
        exact ⟨⟨j + 1, by omega, by simp, HJ3.out, HB3.out.1, HB3.out.2⟩, by simp [intOf]; omega⟩
      · have HX3 : Hid (Jx (fs.take (j + 1)) W3) := Lib.hid (by rw [HTK.out]; exact hJx3)
        clear hJx3
        gi_wp2
        refine bodyPost_ret (results_none rfl _ _ _) rfl ?_
        exact ⟨⟨_, rfl⟩, .inr ⟨fs.take (j + 1), ⟨fs.drop (j + 1), (List.take_append_drop _ _).symm⟩, HX3.out⟩⟩
    · obtain rfl : j = N := by omega
      have HE : Hid (J fs wr) := Lib.hid (by rwa [List.take_of_length_le (by rw [HN.out]; exact Nat.le_refl _)] at hJs)
      clear hJs
      gi_wp2
      go_end0
      exact ⟨⟨_, rfl⟩, .inl HE.out⟩
/-- **going over what All tells** -/
theorem files_stops (F : Fence) (n : Nat) (h7 : F.fn 161) (hro : F.round = none) (hn : 1 ≤ n) (vb : Nat) (w : World) (fs : List F0) (hsq : SeqAt w vb fs) (hfs : fs.length ≤ 1000000) :
    SeqStopsK F n Try.prog 161 #[.pointer (some ⟨vb, 0, none⟩)] (fun x : F0 => #[fileV x]) (Below w.heap.size) (fun ys => ys = fs) (fun pre => ∃ r, fs = pre ++ r) fs.length w := fun l J Jx W hW hJ _ hY h0 =>
  (filesIn F n h7 hro hn l vb w fs hsq hfs J Jx W hW hJ hY h0).mono fun _ _ ⟨he, hj⟩ => ⟨he, hj.imp (fun h => ⟨fs, rfl, h⟩) (fun ⟨pre, hp, h⟩ => ⟨pre, hp, h⟩)⟩
end Go.Proofs.Ytmkjejngnahpeaa
/- Disk: going over the map of files; a file is put into a disk. -/
namespace Go.Proofs.Ytmkjejngnahpeaa
open Go Go.Maps Go.RowKit Go.Shelf
open Go.Proofs (encStr)
attribute [local go_sem] Oper.semAt_some

/-- maps and iterators lie as they lay, but block ob -/
structure WalksBut (ob : Nat) (W W' : World) : Prop where
  size : W.heap.size ≤ W'.heap.size
  same : ∀ (k : Nat) (o : Obj), k ≠ ob → W.heap[k]? = some o → o.isWalk = true → W'.heap[k]? = some o
theorem WalksBut.trans {ob : Nat} {A B C : World} (h : WalksBut ob A B) (k : WalksBut ob B C) : WalksBut ob A C :=
  ⟨Nat.le_trans h.size k.size, fun i o hn hi ho => k.same i o hn (h.same i o hn hi ho) ho⟩
theorem WalksBut.put {ob : Nat} (W : World) (l : Nat) (o o' : Obj) (h : W.heap[l]? = some o) (hw : o.isWalk = false) : WalksBut ob W (W.putObj l o') := by
  have h1 := KeepsWalks.putObj o' h hw
  exact ⟨h1.size, fun k o _ hk ho => h1.same k o hk ho⟩
theorem WalksBut.only {ob : Nat} {W W' : World} (h : Only (fun k => k = ob) W W') : WalksBut ob W W' :=
  ⟨h.size, fun k _ hn hk _ => (h.block k (Array.getElem?_eq_some_iff.1 hk).1 hn).trans hk⟩
theorem ranges_but {w w' : World} {ob b r n : Nat} {D : DataW Unit} {left : Lit → Bool} {cnt : Nat} (h : w.ranges Try.prog 9 ptrElem b r n D left cnt) (hk : WalksBut ob w w') (h1 : b ≠ ob) (h2 : r ≠ ob) : w'.ranges Try.prog 9 ptrElem b r n D left cnt := by
  obtain ⟨es, clock, since, seen, c0, hb, F, hs, hD, hr, rest⟩ := h
  exact ⟨es, clock, since, seen, c0, hk.same b _ h1 hb rfl, F, hs, hD, hk.same r _ h2 hr rfl, rest⟩
abbrev FlOf (L : List Fl) := { x : Fl // x ∈ L }
def encFl (L : List Fl) (x : FlOf L) : Array Value := #[encStr x.1.f.name, .pointer (some ⟨x.1.blk, 0, none⟩)]
/-- all have come, each once -/
def AllCame (L : List Fl) (xs : List (FlOf L)) : Prop := xs.Nodup ∧ ∀ x : FlOf L, x ∈ xs
theorem nodup_sub_lengthP {α : Type} : ∀ {l l' : List α}, l.Nodup → (∀ x ∈ l, x ∈ l') → l.length ≤ l'.length := by
  classical
  intro l l' h1 h2
  exact nodup_sub_length h1 h2
set_option maxRecDepth 100000 in
set_option maxHeartbeats 1000000 in
theorem pairsIn (F : Fence) (n : Nat) (h8 : F.fn 162) (hro : F.round = none) (hn : 1 ≤ n) (l Bm mb ob nn : Nat) (D : DataW Unit) (L : List Fl) (hD : Dic D (pairsF L)) (hnd : (L.map (·.f.name)).Nodup)
    (J Jx : List (FlOf L) → World → Prop) (W : World) (hJ : AbidesFrom W.heap.size J) (hm : W.cell? ⟨Bm, 0, none⟩ = some (.map (some mb))) (hown : W.ownsMap Try.prog 9 ptrElem mb nn D) (hne : mb ≠ ob) (hob : ob < W.heap.size)
    (hY : ∀ pre x W1, J pre W1 → pre.length < L.length → YieldAt F (n - 1) Try.prog l (encFl L x) W1 fun e W' =>
      (e = .returned (.bool true) ∧ J (pre ++ [x]) W' ∧ WalksBut ob W1 W') ∨ (e = .returned (.bool false) ∧ Jx (pre ++ [x]) W')) (h0 : J [] W) :
    CallsIn F n Try.prog 162 #[.func (.yield l) #[] #[], .pointer (some ⟨Bm, 0, none⟩)] W fun e W' => (∃ v, e = .returned v) ∧ ((∃ xs, AllCame L xs ∧ J xs W') ∨ ∃ pre, Jx pre W') := by
  have HD := Lib.hid hD
  have HND := Lib.hid hnd
  have HJ := Lib.hid hJ
  have HY := Lib.hid hY
  clear hD hnd hJ hY
  refine callsIn_of_wp Try.func162 rfl h8 ?_ hro
  simp only [Try.ntmps162, List.size_toArray, List.length_cons, List.length_nil, Nat.reduceAdd, Nat.reduceSub, Array.replicate_succ, Array.replicate_zero, List.push_toArray, List.append_toArray, List.nil_append, List.cons_append]
  gi_wp2_with (gi_at_range; refine wpListIn_range_own _ rfl _ 120 rfl 9 176 (string_keyed Try.underlying9) Try.underlying120 _ mb nn _ rfl hown ?_; intro w0 hrg0 hg0 hs0)
  go_frame
  gi_loopw [3, 4] (fun _ _ wr => ∃ (left : Lit → Bool) (cnt : Nat) (ps : List (FlOf L)), wr.ranges Try.prog 9 ptrElem mb W.heap.size nn D left cnt ∧ Hid (ps.Nodup ∧ ∀ x : FlOf L, x ∈ ps ↔ left (.string x.1.f.name) = false) ∧ J ps wr)
    (fun _ _ wr => wr.rangeLeft mb W.heap.size)
  case atStart =>
    refine ⟨_, _, [], hrg0, Lib.hid ⟨List.nodup_nil, fun x => ?_⟩, HJ.out [] W w0 none h0 hg0 (fun r e => by cases e)⟩
    have : has D (.string x.1.f.name) = true := (HD.out.has x.1.f.name).2 ⟨_, List.mem_map_of_mem (f := fun x : Fl => (x.f.name, x.blk)) x.2, rfl⟩
    rw [this]
    simp
  case round =>
    obtain ⟨left, cnt, ps, hrg, HP, hJs⟩ := hrel
    gi_wp2_with (first
      | (gi_at_next; refine wpListIn_next_ranges _ rfl _ rfl 9 (string_keyed Try.underlying9) ptrElem encStr id (fun key kl hk => by obtain ⟨x, hx, _⟩ := Maps.keyOf_str Try.underlying9 hk; exact ⟨x, hx⟩) (fun v _ _ => ⟨v, rfl⟩) mb W.heap.size nn _ _ _ rfl hrg ?_ ?_)
      | gi_in)
    · intro hc0 hl0
      have HX : Hid (AllCame L ps) := Lib.hid ⟨HP.out.1, fun x => (HP.out.2 x).2 (hl0 _)⟩
      gi_wp2
      go_end0
      exact ⟨⟨_, rfl⟩, .inl ⟨ps, HX.out, hJs⟩⟩
    · intro x c kl yd yp w2 cnt2 hkey hlk hv hat hrg2 hlt hg2 hs2 hen
      obtain ⟨x', ex, rfl, _⟩ := Maps.keyOf_str Try.underlying9 hkey
      obtain rfl : x = x' := encStr_inj ex
      obtain ⟨b, hb, hy⟩ := HD.out.came hat
      have hc : c = .pointer (some ⟨b, 0, none⟩) := ptrElem_val hv hy
      subst hc
      obtain ⟨z, hz, rfl, rfl⟩ := mem_pairsF hb
      obtain ⟨x, hx⟩ : ∃ x : FlOf L, x = ⟨z, hz⟩ := ⟨_, rfl⟩
      have hz1 : z = x.1 := by rw [hx]
      subst hz1
      have hJ2 : J ps w2 := HJ.out ps wr w2 (some W.heap.size) hJs hg2 (fun r e => by cases e; exact ⟨Nat.le_refl _, hrg.iter_walk⟩)
      have hnin : x ∉ ps := fun hin => by
        have := (HP.out.2 x).1 hin
        rw [hlk] at this
        cases this
      have hlen : ps.length < L.length := by
        have h1 : ((ps ++ [x]).map (·.1)).Nodup := by
          rw [List.map_append, List.nodup_append]
          refine ⟨?_, by simp, fun a ha b hb e => ?_⟩
          · exact List.pairwise_map.2 (HP.out.1.imp fun {a b} hab he => hab (Subtype.ext he))
          · obtain ⟨u, hu, rfl⟩ := List.mem_map.1 ha
            simp only [List.map_cons, List.map_nil, List.mem_singleton] at hb
            exact hnin (by rw [← Subtype.ext (e.trans hb)]; exact hu)
        have h2 := nodup_sub_lengthP h1 (l' := L) (fun u hu => by
          obtain ⟨v, _, rfl⟩ := List.mem_map.1 hu
          exact v.2)
        simp at h2
        omega
      obtain ⟨fn, tmps, assign, body, hy', hR⟩ := HY.out ps x w2 hJ2 hlen
      dsimp only [encFl] at hy'
      have HRD := Lib.hid hR
      have HP2 : Hid ((ps ++ [x]).Nodup ∧ ∀ u : FlOf L, u ∈ ps ++ [x] ↔ (left (.string u.1.f.name) && !(Lit.string u.1.f.name).sameKey (.string x.1.f.name)) = false) := Lib.hid ⟨List.nodup_append.2 ⟨HP.out.1, by simp, fun a ha b hb e => by
          simp only [List.mem_singleton] at hb
          exact hnin (by rw [← hb, ← e]; exact ha)⟩, fun u => by
          rw [sameKey_str]
          by_cases hu : u = x
          · rw [hu]; simp
          · have hun : ¬ u.1.f.name = x.1.f.name := fun he => hu (Subtype.ext (eq_of_name HND.out u.2 x.2 he))
            rw [decide_eq_false hun]
            simp [hu, HP.out.2 u]⟩
      clear hs2 hR hat hv hkey hy hb hJ2 hlen hnin hx
      gi_wp2
      refine HRD.out.mono ?_
      rintro e W3 (⟨rfl, hJ3, hk3⟩ | ⟨rfl, hJx3⟩)
      · gi_wp2
        have hrg3 := ranges_but hrg2 hk3 hne (by omega)
        go_roundw
        case rel => exact ⟨_, cnt2, ps ++ [x], hrg3, HP2, hJ3⟩
        case measure => rw [hrg3.left_eq, hrg.left_eq]; exact hlt
      · gi_wp2
        refine bodyPost_ret (results_none rfl _ _ _) rfl ?_
        exact ⟨⟨_, rfl⟩, .inr ⟨ps ++ [x], hJx3⟩⟩
end Go.Proofs.Ytmkjejngnahpeaa
/- Disk: Copy, its parts. -/
namespace Go.Proofs.Ytmkjejngnahpeaa
open Go Go.Maps Go.RowKit Go.Shelf
open Go.Proofs (encStr)
attribute [local go_sem] Oper.semAt_some

theorem pairs_stops (F : Fence) (n : Nat) (h8 : F.fn 162) (hro : F.round = none) (hn : 1 ≤ n) (Bm mb ob nn : Nat) (D : DataW Unit) (L : List Fl) (hD : Dic D (pairsF L)) (hnd : (L.map (·.f.name)).Nodup)
    (w : World) (hBm : w.cell? ⟨Bm, 0, none⟩ = some (.map (some mb))) (hown : w.ownsMap Try.prog 9 ptrElem mb nn D) (hne : mb ≠ ob) (hob : ob < w.heap.size) :
    SeqStopsK F n Try.prog 162 #[.pointer (some ⟨Bm, 0, none⟩)] (encFl L) (WalksBut ob) (AllCame L) (fun _ => True) L.length w := fun l J Jx W hW hJ _ hY h0 =>
  (pairsIn F n h8 hro hn l Bm mb ob nn D L hD hnd J Jx W hJ ((hW.cell (p := ⟨Bm, 0, none⟩) (World.block_lt_of_cell? w _ hBm)).trans hBm) (ownsMap_kept hown (hW.block mb hown.lt)) hne (Nat.lt_of_lt_of_le hob hW.size) hY h0).mono
    fun _ _ ⟨he, hj⟩ => ⟨he, hj.imp id (fun ⟨pre, h⟩ => ⟨pre, trivial, h⟩)⟩
set_option maxRecDepth 100000 in
/-- a new file is put into a disk, by its name -/
theorem DiskIs.put_new {wr w5 w6 : World} {S' : Nat → Prop} {qo mo n' : Nat} {fvo : Value} {Lo : List Fl} {dd : Dk} {x' : Fl} {D : DataW Unit} (h : DiskIs wr S' qo mo fvo Lo dd) (hb : Only (fun _ => False) wr w5) (hx : FlAt w5 x') (hnew : ∀ k ∈ x'.blocks, wr.heap.size ≤ k ∧ k < w5.heap.size) (hnd : x'.blocks.Nodup)
    (hg : w5.grownBy w6 (some mo)) (hm : w6.ownsMap Try.prog 9 ptrElem mo n' (D.put (.string x'.f.name) (.lit (.int .i64 x'.blk)))) (hd : Dic D (pairsF Lo)) (hne : ∀ y ∈ Lo, y.f.name ≠ x'.f.name) (hnm : nameOk x'.f.name = true) (hfew : dd.files.length < 4096) :
    ∃ Lo', DiskIs w6 (fun k => S' k ∨ (wr.heap.size ≤ k ∧ k < w6.heap.size)) qo mo fvo Lo' { dd with files := insF x'.f dd.files } ∧ Lo'.length = Lo.length + 1 := by
  obtain ⟨A, B, rfl, hi⟩ := insF_split x'.f Lo
  have hi' : insF x'.f dd.files = A.map (·.f) ++ x'.f :: B.map (·.f) := by rw [← h.files]; exact hi
  have hmo : mo < wr.heap.size := h.low _ (h.foot _ (by simp [diskBlocks]))
  have hs1 := hb.size
  have hs2 := hg.size
  have ho : Only (fun k => k = mo) wr w6 := (hb.mono (fun _ _ h => h.elim)).trans (Only.of_grown (S := fun k => k = mo) hg (fun k hk => by simp at hk; exact hk.symm)) (fun _ _ h => h)
  have hx6 : FlAt w6 x' := hx.kept (fun k hk => hg.block k (hnew k hk).2 (by have := (hnew k hk).1; simp; omega))
  refine ⟨A ++ x' :: B, h.file_add ho hx6 hm ?_ (fun k hk => ⟨(hnew k hk).1, Nat.lt_of_lt_of_le (hnew k hk).2 hs2⟩) hnd hi' ?_ hnm hfew, by simp; omega⟩
  · refine Dic.put (L := pairsF (A ++ B)) hd _ _ (fun f => ?_) (fun f hf => ?_)
    · simp only [pairsF, List.map_append, List.map_cons, List.mem_append, List.mem_cons]
      constructor
      · rintro (h | h | h) <;> simp [h]
      · rintro (h | h | h) <;> simp [h]
    · obtain ⟨y, hy, rfl⟩ := List.mem_map.1 hf
      exact hne y hy
  · exact insF_sorted _ _ h.sorted (fun g hg' => by
      rw [← h.files] at hg'
      obtain ⟨y, hy, rfl⟩ := List.mem_map.1 hg'
      exact hne y hy)
theorem keep_box {W w5 : World} {tb : Nat} {v : Value} {T : TypeId} (hb : Below W.heap.size W w5) (h : W.heap[tb]? = some (.cells #[v] T (0, 0))) : w5.heap[tb]? = some (.cells #[v] T (0, 0)) ∧
    (∀ o, (w5.alloc o).cell? ⟨tb, 0, none⟩ = some v) ∧ (∀ o, (w5.alloc o).frozen? ⟨tb, 0, none⟩ = false) ∧ (∀ o o', ((w5.alloc o).alloc o').cell? ⟨tb, 0, none⟩ = some v) ∧ (∀ o o', ((w5.alloc o).alloc o').frozen? ⟨tb, 0, none⟩ = false) := by
  have hl := (Array.getElem?_eq_some_iff.1 h).1
  have h5 := (hb.block tb hl).trans h
  have h6 : ∀ o, (w5.alloc o).heap[tb]? = some (.cells #[v] T (0, 0)) := fun o => (Below.heap_alloc _ _ _ (Nat.lt_of_lt_of_le hl hb.size)).trans h5
  have h7 : ∀ o o', ((w5.alloc o).alloc o').heap[tb]? = some (.cells #[v] T (0, 0)) := fun o o' => (Below.heap_alloc _ _ _ (by have := hb.size; simp; omega)).trans (h6 o)
  exact ⟨h5, fun o => cell_of (h6 o) rfl, fun o => free_of (h6 o) _, fun o o' => cell_of (h7 o o') rfl, fun o o' => free_of (h7 o o') _⟩
theorem cs_of {q : Nat} {a b : Value} {w0 W W' : World} (h : W.cell? ⟨q, 1, none⟩ = some a ∧ W.cell? ⟨q, 2, none⟩ = some b ∧ Below w0.heap.size w0 W ∧ q < w0.heap.size) (hb : Below W.heap.size W W') : W'.cell? ⟨q, 1, none⟩ = some a ∧ W'.cell? ⟨q, 2, none⟩ = some b ∧ Below w0.heap.size w0 W' ∧ q < w0.heap.size :=
  have hq : q < W.heap.size := Nat.lt_of_lt_of_le h.2.2.2 h.2.2.1.size
  ⟨(hb.cell (p := ⟨q, 1, none⟩) hq).trans h.1, (hb.cell (p := ⟨q, 2, none⟩) hq).trans h.2.1, h.2.2.1.trans (hb.mono h.2.2.1.size), h.2.2.2⟩
theorem cs_below {q : Nat} {a b : Value} {w0 W : World} (h : W.cell? ⟨q, 1, none⟩ = some a ∧ W.cell? ⟨q, 2, none⟩ = some b ∧ Below w0.heap.size w0 W ∧ q < w0.heap.size) : Below w0.heap.size w0 W := h.2.2.1
theorem cs_call {q : Nat} {a b : Value} {w0 W W' : World} (h : W.cell? ⟨q, 1, none⟩ = some a ∧ W.cell? ⟨q, 2, none⟩ = some b ∧ Below w0.heap.size w0 W ∧ q < w0.heap.size) (hb : Below W.heap.size W W') : Below w0.heap.size w0 W' := (cs_of h hb).2.2.1
theorem below2 {w0 W : World} (o o' : Obj) (h : Below w0.heap.size w0 W) : Below w0.heap.size w0 ((W.alloc o).alloc o') := (h.alloc h.size o).alloc (by have := h.size; simp; omega) o'
theorem below3 {w0 W : World} (o o' o'' : Obj) (h : Below w0.heap.size w0 W) : Below w0.heap.size w0 (((W.alloc o).alloc o').alloc o'') := (below2 o o' h).alloc (by have := h.size; simp; omega) o''
theorem cs_drew {q : Nat} {a b : Value} {w0 W : World} (h : W.cell? ⟨q, 1, none⟩ = some a ∧ W.cell? ⟨q, 2, none⟩ = some b ∧ Below w0.heap.size w0 W ∧ q < w0.heap.size) : W.drew.cell? ⟨q, 1, none⟩ = some a ∧ W.drew.cell? ⟨q, 2, none⟩ = some b ∧ Below w0.heap.size w0 W.drew ∧ q < w0.heap.size := cs_of h ⟨rfl, rfl, rfl, Nat.le_refl _, fun _ _ => rfl⟩
theorem cs_alloc {q : Nat} {a b : Value} {w0 W : World} (o : Obj) (h : W.cell? ⟨q, 1, none⟩ = some a ∧ W.cell? ⟨q, 2, none⟩ = some b ∧ Below w0.heap.size w0 W ∧ q < w0.heap.size) : (W.alloc o).cell? ⟨q, 1, none⟩ = some a ∧ (W.alloc o).cell? ⟨q, 2, none⟩ = some b ∧ Below w0.heap.size w0 (W.alloc o) ∧ q < w0.heap.size := cs_of h ((Below.refl _ _).alloc (Nat.le_refl _) _)
theorem cs_set {q tb : Nat} {a b u : Value} {w0 W : World} (hk : w0.heap.size ≤ tb) (h : W.cell? ⟨q, 1, none⟩ = some a ∧ W.cell? ⟨q, 2, none⟩ = some b ∧ Below w0.heap.size w0 W ∧ q < w0.heap.size) : (W.setCell ⟨tb, 0, none⟩ u).cell? ⟨q, 1, none⟩ = some a ∧ (W.setCell ⟨tb, 0, none⟩ u).cell? ⟨q, 2, none⟩ = some b ∧ Below w0.heap.size w0 (W.setCell ⟨tb, 0, none⟩ u) ∧ q < w0.heap.size := by
  have hb : Below w0.heap.size W (W.setCell ⟨tb, 0, none⟩ u) := (Below.refl _ _).setCell (p := ⟨tb, 0, none⟩) hk u
  exact ⟨(hb.cell (p := ⟨q, 1, none⟩) h.2.2.2).trans h.1, (hb.cell (p := ⟨q, 2, none⟩) h.2.2.2).trans h.2.1, h.2.2.1.trans hb, h.2.2.2⟩
theorem size_drew (w : World) : w.drew.heap.size = w.heap.size := rfl
theorem keep_map {W w5 : World} {b : Nat} {o : Obj} (hb : Below W.heap.size W w5) (h : W.heap[b]? = some o) : w5.heap[b]? = some o := (hb.block b (Array.getElem?_eq_some_iff.1 h).1).trans h
/-- a disk without files was made, and a variable that points to it -/
structure CopyStart (w0 wx : World) (d : Dk) (tb qo mo : Nat) (v : Value) : Prop where
  box : wx.heap[tb]? = some (.cells #[.pointer (some ⟨qo, 0, none⟩)] 37 (0, 0))
  disk : DiskIs wx (fun k => k = qo ∨ k = mo ∨ v.ownBlock = some k) qo mo v [] ⟨[], d.fates, d.steps⟩
  below : Below w0.heap.size w0 wx
  ge : w0.heap.size ≤ tb ∧ w0.heap.size ≤ qo ∧ w0.heap.size ≤ mo ∧ ∀ k, v.ownBlock = some k → w0.heap.size ≤ k
  ne : tb ≠ qo ∧ tb ≠ mo ∧ v.ownBlock ≠ some tb
theorem copy_start {w0 wx : World} {d : Dk} {tb qo mo : Nat} {v : Value} (hbox : wx.heap[tb]? = some (.cells #[.pointer (some ⟨qo, 0, none⟩)] 37 (0, 0))) (hhead : wx.heap[qo]? = some (.cells #[.map (some mo), v, .int .i64 d.steps] 122 (0, 0))) (hmap : wx.heap[mo]? = some (.map #[] 0))
    (hrow : rowAt wx 99 2 v d.fates.length (fateCells d.fates)) (hb : Below w0.heap.size w0 wx) (ge : w0.heap.size ≤ tb ∧ w0.heap.size ≤ qo ∧ w0.heap.size ≤ mo ∧ ∀ k, v.ownBlock = some k → w0.heap.size ≤ k) : CopyStart w0 wx d tb qo mo v := by
  have hv : ∀ k, v.ownBlock = some k → ∃ cur fr, wx.heap[k]? = some (.cells cur 99 fr) := fun k hk => by
    rcases hrow.2 with ⟨rfl, _⟩ | ⟨g, off, c, cur, fr, rfl, hg, _⟩
    · simp [Value.ownBlock] at hk
    · simp only [Value.ownBlock, Option.some.injEq] at hk
      subst hk
      exact ⟨cur, fr, hg⟩
  have hqm : qo ≠ mo := fun e => by rw [e, hmap] at hhead; cases hhead
  have hqv : v.ownBlock ≠ some qo := fun e => by
    obtain ⟨cur, fr, h⟩ := hv qo e
    rw [hhead] at h
    simp at h
  have hmv : v.ownBlock ≠ some mo := fun e => by
    obtain ⟨cur, fr, h⟩ := hv mo e
    rw [hmap] at h
    cases h
  refine ⟨hbox, ⟨rfl, hhead, hrow, ⟨.map [], ?_, Dic.empty⟩, fun x hx => (by cases hx), ?_, fun k hk => ?_, fun k hk => ?_, by simp, fun f hf => (by cases hf), by simp⟩, hb, ge, fun e => ?_, fun e => ?_, fun e => ?_⟩
  · obtain ⟨es, clock, he, F, hs, hD⟩ := World.ownsMap_made wx Try.prog 9 ptrElem
    rw [show (wx.alloc (.map #[] 0)).heap[wx.heap.size]? = some (.map #[] 0) from heap_alloc_new _ _] at he
    cases he
    exact ⟨#[], 0, hmap, F, hs, hD⟩
  · cases ho : v.ownBlock with
    | none => simp [diskBlocks, ho, hqm]
    | some k =>
      have h1 : qo ≠ k := fun e => hqv (by rw [ho, e])
      have h2 : mo ≠ k := fun e => hmv (by rw [ho, e])
      simp [diskBlocks, ho, hqm, h1, h2]
  · simp only [diskBlocks, List.mem_cons, List.flatMap_nil, List.append_nil, Option.mem_toList] at hk
    exact hk
  · rcases hk with rfl | rfl | hk
    · exact (Array.getElem?_eq_some_iff.1 hhead).1
    · exact (Array.getElem?_eq_some_iff.1 hmap).1
    · exact hrow.lt k hk
  · rw [e, hhead] at hbox
    simp at hbox
  · rw [e, hmap] at hbox
    cases hbox
  · obtain ⟨cur, fr, h⟩ := hv tb e
    rw [hbox] at h
    simp at h
/-- a statement that is left at its end alone -/
theorem wp_only {P : Program} {c : Code} {K : Act → World → Prop} {Q' : Exit → Act → World → Prop} {a : Act} {w : World} (h : c.wp P (Exit.then K (fun _ _ _ => False)) a w) : c.wp P (Exit.then K Q') a w :=
  (wpIn_wide (n := 1)).1 (wpIn_mono (wpIn_wide.2 h) (fun e _ _ hq => by
    cases e with
    | normal => exact hq
    | exit id => exact hq.elim
    | goto l => exact hq.elim
    | ret => exact hq.elim
    | panic ch => exact hq.elim
    | outgrown => exact hq.elim))
end Go.Proofs.Ytmkjejngnahpeaa
/- Disk: Copy: a file is copied. -/
namespace Go.Proofs.Ytmkjejngnahpeaa
open Go Go.Maps Go.RowKit Go.Shelf
open Go.Proofs (encStr)

theorem DiskIs.cells_or {w : World} {S : Nat → Prop} {q mb : Nat} {fv : Value} {L : List Fl} {d : Dk} (h : DiskIs w S q mb fv L d) : ∀ k ∈ diskBlocks q mb fv L, k = mb ∨ ∃ cs T fr, w.heap[k]? = some (.cells cs T fr) := fun k hk => by
  simp only [diskBlocks, List.mem_cons, List.mem_append, Option.mem_toList, List.mem_flatMap, Fl.blocks] at hk
  have hrow : ∀ (e : TypeId) (size : Nat) (v : Value) (n : Nat) (xs : List Value), rowAt w e size v n xs → v.ownBlock = some k → ∃ cs T fr, w.heap[k]? = some (.cells cs T fr) := fun e size v n xs hr hv => by
    rcases hr.2 with ⟨rfl, _⟩ | ⟨g, off, c, cur, fr, rfl, hg, _⟩
    · simp [Value.ownBlock] at hv
    · simp only [Value.ownBlock, Option.some.injEq] at hv
      subst hv
      exact ⟨cur, _, fr, hg⟩
  rcases hk with rfl | rfl | hk | ⟨x, hx, hk⟩
  · exact .inr ⟨_, _, _, h.head⟩
  · exact .inl rfl
  · exact .inr (hrow _ _ _ _ _ h.fates hk)
  · rcases hk with rfl | hk
    · exact .inr ⟨_, _, _, (h.each x hx).cells⟩
    · exact .inr (hrow _ _ _ _ _ (h.each x hx).row hk)
/-- what is no cells turns, but not the disk's map -/
theorem DiskIs.own {w w' : World} {S : Nat → Prop} {q mb : Nat} {fv : Value} {L : List Fl} {d : Dk} {row : Option Nat} (h : DiskIs w S q mb fv L d) (hg : w.grownBy w' row) (hr : ∀ r, row = some r → r ≠ mb ∧ ∃ o : Obj, w.heap[r]? = some o ∧ o.isCells = false) : DiskIs w' S q mb fv L d := by
  have h1 : DiskIs w (fun k => k ∈ diskBlocks q mb fv L) q mb fv L d := { h with foot := fun k hk => hk, low := fun k hk => h.low k (h.foot k hk) }
  have h2 := h1.kept (w' := w') (fun k hk => hg.block k (h1.low k hk) (fun e => by
    obtain ⟨hne, o, ho, hc⟩ := hr k e.symm
    rcases h.cells_or k hk with h3 | ⟨cs, T, fr, h3⟩
    · exact hne h3
    · rw [h3] at ho
      cases ho
      simp [Obj.isCells] at hc)) hg.size
  exact h2.wider (fun k hk => h.foot k hk) (fun k hk => Nat.lt_of_lt_of_le (h.low k hk) hg.size)
/-- both disks, while files are copied -/
structure CopyPre (w0 W : World) (S : Nat → Prop) (q mb : Nat) (fv : Value) (L : List Fl) (d : Dk) (tb qo mo : Nat) (fvo : Value) (pre : List (FlOf L)) : Prop where
  old : DiskIs W S q mb fv L d
  only : Only (fun k => k = mo) w0 W
  box : W.heap[tb]? = some (.cells #[.pointer (some ⟨qo, 0, none⟩)] 37 (0, 0))
  head : W.heap[qo]? = some (.cells #[.map (some mo), fvo, .int .i64 d.steps] 122 (0, 0))
  map : ∃ D n, n ≤ pre.length ∧ W.ownsMap Try.prog 9 ptrElem mo n D
  real : pre.Nodup → ∃ Lo fl, DiskIs W (fun k => (k = qo ∨ k = mo ∨ fvo.ownBlock = some k ∨ w0.heap.size ≤ k) ∧ k < W.heap.size) qo mo fvo Lo ⟨fl, d.fates, d.steps⟩ ∧ Lo.length = pre.length ∧ ∀ f, f ∈ fl ↔ ∃ x ∈ pre, f = x.1.f
theorem CopyPre.own {w0 W W' : World} {S : Nat → Prop} {q mb : Nat} {fv : Value} {L : List Fl} {d : Dk} {tb qo mo : Nat} {fvo : Value} {pre : List (FlOf L)} {row : Option Nat} (h : CopyPre w0 W S q mb fv L d tb qo mo fvo pre) (hs : ∀ k, S k → k < w0.heap.size) (ht : tb < w0.heap.size ∧ qo < w0.heap.size ∧ mo < w0.heap.size)
    (hg : W.grownBy W' row) (hr : ∀ r, row = some r → w0.heap.size ≤ r ∧ ∃ o : Obj, W.heap[r]? = some o ∧ o.isCells = false) : CopyPre w0 W' S q mb fv L d tb qo mo fvo pre := by
  have hsz := h.only.size
  have hk : ∀ k, k < w0.heap.size → W'.heap[k]? = W.heap[k]? := fun k hk => hg.block k (by omega) (fun e => by have := (hr k e.symm).1; omega)
  refine ⟨h.old.kept (fun k hk' => hk k (hs k hk')) hg.size, ?_, (hk tb ht.1).trans h.box, (hk qo ht.2.1).trans h.head, ?_, fun hnd => ?_⟩
  · exact h.only.trans (Only.of_grown (S := fun k => w0.heap.size ≤ k) hg (fun k e => (hr k e).1)) (fun i hi hi' => by omega)
  · obtain ⟨D, n, hn, ho⟩ := h.map
    exact ⟨D, n, hn, ownsMap_kept ho (hk mo ht.2.2)⟩
  · obtain ⟨Lo, fl, hd, hl, hf⟩ := h.real hnd
    exact ⟨Lo, fl, (hd.own hg (fun r e => ⟨by have := (hr r e).1; omega, (hr r e).2⟩)).wider (fun k hk => ⟨hk.1, Nat.lt_of_lt_of_le hk.2 hg.size⟩) (fun k hk => hk.2), hl, hf⟩
/-- the map that the next file goes into -/
theorem CopyPre.next {w0 W : World} {S : Nat → Prop} {q mb : Nat} {fv : Value} {L : List Fl} {d : Dk} {tb qo mo : Nat} {fvo : Value} {pre : List (FlOf L)} (h : CopyPre w0 W S q mb fv L d tb qo mo fvo pre) (x : FlOf L) :
    ∃ D n, n ≤ pre.length ∧ W.ownsMap Try.prog 9 ptrElem mo n D ∧ ((pre ++ [x]).Nodup → ∃ Lo fl, DiskIs W (fun k => (k = qo ∨ k = mo ∨ fvo.ownBlock = some k ∨ w0.heap.size ≤ k) ∧ k < W.heap.size) qo mo fvo Lo ⟨fl, d.fates, d.steps⟩ ∧ Lo.length = pre.length ∧ (∀ f, f ∈ fl ↔ ∃ x ∈ pre, f = x.1.f) ∧ Dic D (pairsF Lo)) := by
  by_cases hnd : (pre ++ [x]).Nodup
  · obtain ⟨Lo, fl, hd, hl, hf⟩ := h.real (List.nodup_append.1 hnd).1
    obtain ⟨D, ho, _, hdic⟩ := hd.look
    exact ⟨D, Lo.length, by omega, ho, fun _ => ⟨Lo, fl, hd, hl, hf, hdic⟩⟩
  · obtain ⟨D, n, hn, ho⟩ := h.map
    exact ⟨D, n, hn, ho, fun hc => absurd hc hnd⟩
/-- a file has been copied -/
theorem CopyPre.step {w0 W W1 W2 W3 W4 : World} {S : Nat → Prop} {q mb : Nat} {fv : Value} {L : List Fl} {d : Dk} {tb qo mo n : Nat} {fvo v : Value} {pre : List (FlOf L)} {x : FlOf L} {D : DataW Unit} (h : CopyPre w0 W S q mb fv L d tb qo mo fvo pre) (hs : ∀ k, S k → k < w0.heap.size ∧ k ≠ mo) (ht : tb < w0.heap.size ∧ qo < w0.heap.size ∧ mo < w0.heap.size ∧ tb ≠ mo ∧ qo ≠ mo)
    (hn : n ≤ pre.length) (hreal : (pre ++ [x]).Nodup → ∃ Lo fl, DiskIs W (fun k => (k = qo ∨ k = mo ∨ fvo.ownBlock = some k ∨ w0.heap.size ≤ k) ∧ k < W.heap.size) qo mo fvo Lo ⟨fl, d.fates, d.steps⟩ ∧ Lo.length = pre.length ∧ (∀ f, f ∈ fl ↔ ∃ x ∈ pre, f = x.1.f) ∧ Dic D (pairsF Lo))
    (hW1 : W1 = W.alloc (.cells #[x.1.bv, .int .i64 x.1.f.lasts, .bool x.1.f.there, .bool x.1.f.named] 178)) (hnb : NewBytes W1 W2 v x.1.f.bytes) (hW3 : W3 = W2.setCell ⟨W.heap.size, 0, none⟩ v) (hg : W3.grownBy W4 (some mo))
    (hm : W4.ownsMap Try.prog 9 ptrElem mo (n + 1) (D.put (.string x.1.f.name) (.lit (.int .i64 W.heap.size)))) (hlen : pre.length < L.length) :
    CopyPre w0 W4 S q mb fv L d tb qo mo fvo (pre ++ [x]) ∧ Only (fun k => k = mo) W W4 := by
  obtain ⟨hb, hown, hbl⟩ := hnb
  have hs1 : W1.heap.size = W.heap.size + 1 := by rw [hW1]; simp
  have hs2 := hbl.size
  have hs3 : W3.heap.size = W2.heap.size := by rw [hW3]; simp [World.setCell]
  have hs4 := hg.size
  have hsz := h.only.size
  have hc1 : W1.heap[W.heap.size]? = some (.cells #[x.1.bv, .int .i64 x.1.f.lasts, .bool x.1.f.there, .bool x.1.f.named] 178 (0, 0)) := by rw [hW1]; exact alloc_cells _ _ _
  have hc2 : W2.heap[W.heap.size]? = some (.cells #[x.1.bv, .int .i64 x.1.f.lasts, .bool x.1.f.there, .bool x.1.f.named] 178 (0, 0)) := (hbl.block _ (by omega)).trans hc1
  have hc3 : W3.heap[W.heap.size]? = some (.cells #[v, .int .i64 x.1.f.lasts, .bool x.1.f.there, .bool x.1.f.named] 178 (0, 0)) := by rw [hW3]; exact heap_setCell_here _ hc2
  have ho13 : Only (fun _ => False) W W3 := by
    have h1 : Only (fun _ => False) W W1 := by rw [hW1]; exact only_alloc _ _ _
    have h2 : Only (fun _ => False) W1 W2 := Only.of_below hbl (Nat.le_refl _) _
    have h3 : Only (fun k => k = W.heap.size) W2 W3 := by rw [hW3]; exact only_setCell (fun k => k = W.heap.size) _ _ _ _ rfl
    exact (h1.trans h2 (fun _ _ h => h)).trans h3 (fun i hi he => by omega)
  have ho : Only (fun k => k = mo) W W4 := (ho13.mono (fun _ _ h => h.elim)).trans (Only.of_grown (S := fun k => k = mo) hg (fun k hk => by simp at hk; exact hk.symm)) (fun _ _ h => h)
  have hx3 : FlAt W3 ⟨x.1.f, W.heap.size, v⟩ := by
    have hold := h.old.each x.1 x.2
    refine ⟨hc3, ?_, hold.lasts, hold.size⟩
    refine hb.kept (fun k hk => ?_)
    rw [hW3]
    exact Below.heap_setCell _ _ _ _ (fun e => by dsimp only at e; have := hown k hk; omega)
  have hkeep : ∀ k, k < w0.heap.size → k ≠ mo → W4.heap[k]? = W.heap[k]? := fun k h1 h2 => ho.block k (by omega) h2
  refine ⟨⟨h.old.kept (fun k hk => hkeep k (hs k hk).1 (hs k hk).2) ho.size, h.only.trans ho (fun _ _ h => h), (hkeep tb ht.1 ht.2.2.2.1).trans h.box, (hkeep qo ht.2.1 ht.2.2.2.2).trans h.head, ⟨_, n + 1, by simp; omega, hm⟩, fun hnd => ?_⟩, ho⟩
  obtain ⟨Lo, fl, hd, hl, hf, hdic⟩ := hreal hnd
  have hfl : Lo.map (·.f) = fl := hd.files
  have hne : ∀ y ∈ Lo, y.f.name ≠ x.1.f.name := fun y hy he => by
    obtain ⟨z, hz, hze⟩ := (hf y.f).1 (by rw [← hfl]; exact List.mem_map_of_mem hy)
    have hzx : z.1 = x.1 := eq_of_name h.old.nodup z.2 x.2 (by rw [← hze, he])
    exact (List.nodup_append.1 hnd).2.2 z hz x (by simp) (Subtype.ext hzx)
  have hLl : L.length ≤ 4096 := by
    have h1 := h.old.few
    rw [← h.old.files, List.length_map] at h1
    exact h1
  obtain ⟨Lo', hd', hl'⟩ := hd.put_new (x' := ⟨x.1.f, W.heap.size, v⟩) ho13 hx3 (fun k hk => by
    simp only [Fl.blocks, List.mem_cons, Option.mem_toList] at hk
    rcases hk with rfl | hk
    · omega
    · have h1 := hown k hk
      have h2 := hb.lt k hk
      omega) (by
    cases hv : v.ownBlock with
    | none => simp [Fl.blocks, hv]
    | some k =>
      have h1 := hown k hv
      simp [Fl.blocks, hv]
      omega) hg hm hdic hne (h.old.names x.1.f (by rw [← h.old.files]; exact List.mem_map_of_mem x.2)) (by
    show fl.length < 4096
    rw [← hfl, List.length_map]
    omega)
  refine ⟨Lo', _, hd'.wider (fun k hk => ?_) (fun k hk => hk.2), by rw [hl', hl]; simp, fun f => ?_⟩
  · rcases hk with hk | hk
    · exact ⟨hk.1, Nat.lt_of_lt_of_le hk.2 ho.size⟩
    · exact ⟨by omega, hk.2⟩
  · show f ∈ insF x.1.f fl ↔ _
    rw [mem_insF, hf]
    constructor
    · rintro (rfl | ⟨z, hz, rfl⟩)
      · exact ⟨x, by simp, rfl⟩
      · exact ⟨z, by simp [hz], rfl⟩
    · rintro ⟨z, hz, rfl⟩
      rcases List.mem_append.1 hz with h1 | h1
      · exact .inr ⟨z, h1, rfl⟩
      · simp only [List.mem_singleton] at h1
        exact .inl (by rw [h1])
theorem sorted_ext {l l' : List F0} (h1 : (l.map (·.name)).Pairwise (· < ·)) (h2 : (l'.map (·.name)).Pairwise (· < ·)) (h : ∀ x, x ∈ l ↔ x ∈ l') : l = l' := by
  have hn : ∀ l : List F0, (l.map (·.name)).Pairwise (· < ·) → l.Nodup := fun l hl => (List.pairwise_map.1 hl).imp (fun {a b} hab he => by rw [he] at hab; exact List.lt_irrefl _ hab)
  exact sorted_sub_eq h1 h2 (fun x hx => (h x).1 hx) (Nat.le_antisymm (nodup_sub_length (hn l h1) (fun x hx => (h x).1 hx)) (nodup_sub_length (hn l' h2) (fun x hx => (h x).2 hx)))
/-- all have been copied -/
theorem CopyPre.done {w0 W : World} {S : Nat → Prop} {q mb : Nat} {fv : Value} {L : List Fl} {d : Dk} {tb qo mo : Nat} {fvo : Value} {xs : List (FlOf L)} (h : CopyPre w0 W S q mb fv L d tb qo mo fvo xs) (hx : AllCame L xs) :
    ∃ Lo, DiskIs W (fun k => (k = qo ∨ k = mo ∨ fvo.ownBlock = some k ∨ w0.heap.size ≤ k) ∧ k < W.heap.size) qo mo fvo Lo d := by
  obtain ⟨Lo, fl, hd, _, hf⟩ := h.real hx.1
  have e : fl = d.files := sorted_ext hd.sorted h.old.sorted (fun f => by
    rw [hf, ← h.old.files, List.mem_map]
    constructor
    · rintro ⟨z, _, rfl⟩
      exact ⟨z.1, z.2, rfl⟩
    · rintro ⟨z, hz, rfl⟩
      exact ⟨⟨z, hz⟩, hx.2 _, rfl⟩)
  subst e
  exact ⟨Lo, hd⟩
end Go.Proofs.Ytmkjejngnahpeaa
