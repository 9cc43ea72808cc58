/- Disk: All: what the disk tells of its files. -/
import Derived.Test.YtmkjejngnahpeaaFi
namespace Go.Proofs.Ytmkjejngnahpeaa
open Go Go.Maps Go.RowKit
open Go.Proofs (encStr)

/-- how a file is told: its cells -/
def fileCells (f : F0) : List Value := [encStr f.name, .int .i64 f.bytes.length, .int .i64 f.lasts, .bool f.there, .bool f.named]
def filesCells (l : List F0) : List Value := l.flatMap fileCells
theorem filesCells_snoc (l : List F0) (f : F0) : filesCells (l ++ [f]) = filesCells l ++ fileCells f := by simp [filesCells]
theorem filesCells_length : ∀ l : List F0, (filesCells l).length = l.length * 5
  | [] => rfl
  | f :: r => by
    have : filesCells (f :: r) = fileCells f ++ filesCells r := rfl
    rw [this, List.length_append, filesCells_length r]
    simp [fileCells]
    omega
theorem fileCells_one (f : F0) : ∀ v ∈ fileCells f, v.oneCell' = true := by
  intro v hv
  simp only [fileCells, List.mem_cons, List.not_mem_nil, or_false] at hv
  rcases hv with rfl | rfl | rfl | rfl | rfl <;> rfl
theorem info_file : (Try.prog.info? 78).map (fun i => (i.zero, i.size, i.bytes)) = some (some (.agg #[.string ⟨#[]⟩, .int .i64 0, .int .i64 0, .bool false, .bool false]), 5, 40) := by kernel_rfl
theorem five_row (w : World) (a b c d e : Value) : rowAt (w.alloc (.cells #[a, b, c, d, e] 78)) 78 5 (.slice (some ⟨w.heap.size, 0, none⟩) 1 1) 1 [a, b, c, d, e] :=
  ⟨rfl, .inr ⟨_, 0, 1, _, _, rfl, alloc_cells _ _ _, Nat.le_refl _, by unfold maxLen; omega, by simp, freeRow_zero _, rfl⟩⟩
/-- block vb holds the list of files that is gone over -/
def SeqAt (w : World) (vb : Nat) (l : List F0) : Prop := ∃ v, w.heap[vb]? = some (.cells #[v] 76 (0, 0)) ∧ rowAt w 78 5 v l.length (filesCells l)
theorem SeqAt.kept {w w' : World} {B vb : Nat} {l : List F0} (h : SeqAt w vb l) (hb : Below B w w') (hB : w.heap.size ≤ B) : SeqAt w' vb l := by
  obtain ⟨v, h1, h2⟩ := h
  exact ⟨v, (hb.block vb (Nat.lt_of_lt_of_le (Array.getElem?_eq_some_iff.1 h1).1 hB)).trans h1, h2.kept (fun k hk => hb.block k (Nat.lt_of_lt_of_le (h2.lt k hk) hB))⟩
set_option maxHeartbeats 400000 in
theorem valuesF_b (w : World) (oa : Option Addr) (n c : Nat) : Calls Try.prog 115 #[.slice oa n c] w fun e w' => e = .returned (.func (.func 161) #[] #[.pointer (some ⟨w.heap.size, 0, none⟩)]) ∧ w' = w.alloc (.cells #[.slice oa n c] 76) := by
  go_enter Try.func115, Try.ntmps115
  go_wp2_with fail
  go_ret
  exact ⟨rfl, rfl⟩
/-- what All hands back -/
def AllIs (w : World) (l : List F0) (e : Ending) (w' : World) : Prop :=
  ∃ vb, e = .returned (.func (.func 161) #[] #[.pointer (some ⟨vb, 0, none⟩)]) ∧ SeqAt w' vb l ∧ w.heap.size ≤ vb ∧ Below w.heap.size w w'
theorem wpList_append_file {w2 : World} {ops : Array Oper} {rest : List Oper} {o : Oper} {a : Act} {Q : Exit → Act → World → Prop} (hgd : o.guard = none) (s x : Operand)
    (ho : o.op = .call { callee := .builtin .append, args := #[s, x], argTypes := #[76, 76] })
    {oa : Option Addr} {m c : Nat} {xs : List Value} {nm : ByteArray} {a1 a2 a3 a4 : Value} (h : rowAt w2 78 5 (.slice oa m c) m xs) (hm : m ≤ 1000000) (h1 : ∀ v ∈ [.string nm, a1, a2, a3, a4], v.oneCell' = true)
    (hs : a.eval s = .slice oa m c) (hx : a.eval x = .slice (some ⟨w2.heap.size, 0, none⟩) 1 1)
    (hK : ∀ oa3 c3 w3, Hid (rowAt w3 78 5 (.slice oa3 (m + 1) c3) (m + 1) (xs ++ [.string nm, a1, a2, a3, a4])) → Hid ((w2.alloc (.cells #[.string nm, a1, a2, a3, a4] 78)).grownBy w3 (Value.slice oa m c).ownBlock) →
      Hid ((Value.slice oa3 (m + 1) c3).ownBlock = (Value.slice oa m c).ownBlock ∨ (Value.slice oa3 (m + 1) c3).ownBlock = some (w2.heap.size + 1)) → wpList Try.prog ops Q rest (a.put o.dst (.slice oa3 (m + 1) c3)) w3) :
    wpList Try.prog ops Q (o :: rest) a (w2.alloc (.cells #[.string nm, a1, a2, a3, a4] 78)) := by
  refine wpList_append_at _ hgd s x 76 76 ho 78 (.agg #[.string ⟨#[]⟩, .int .i64 0, .int .i64 0, .bool false, .bool false]) 5 40 Try.underlying76 info_file rfl _ m xs hs (h.kept (fun k hk => Below.heap_alloc _ _ k (h.lt k hk))) _ 1 _ hx (Src.of_row Try.underlying76 (five_row w2 (.string nm) a1 a2 a3 a4) h1) (by unfold maxLen; omega) (by omega) ?_
  intro v' w3 hr hg hown _
  obtain ⟨oa3, c3, rfl, _⟩ := hr.shape
  exact hK oa3 c3 w3 (Lib.hid hr) (Lib.hid hg) (Lib.hid (by simpa using hown))
set_option maxRecDepth 100000 in
set_option maxHeartbeats 1000000 in
theorem all_b {w : World} {S : Nat → Prop} {q : Nat} {d : Dk} (h : DiskAt w S q d) :
    Calls Try.prog 41 #[.pointer (some ⟨q, 0, none⟩)] w fun e w' => AllIs w d.files e w' := by
  obtain ⟨mb, fv, L, h⟩ := h
  have hlen : L.length ≤ 4096 := by
    have h1 := h.few
    rw [← h.files, List.length_map] at h1
    exact h1
  have H := Lib.hid h
  have HLN := Lib.hid hlen
  clear h
  go_enter Try.func41, Try.ntmps41
  go_wp2_with fail
  refine (names_b H.out).mono ?_
  rintro e w1 ⟨v, rfl, hrow, hnil, hb1⟩
  have hr1 := rowAt.of_row (hasRow.of_own hrow)
  have H1 := Lib.hid (H.out.below hb1)
  obtain ⟨oa, c, rfl, _⟩ := hr1.shape
  obtain ⟨n, hn⟩ : ∃ n, L.length = n := ⟨_, rfl⟩
  rw [hn] at hr1 HLN hlen ⊢
  have HR1 : Hid (rowAt w1 9 1 (.slice oa n c) n (encN L)) := Lib.hid hr1
  have HB1 := Lib.hid hb1
  have HN := Lib.hid hn
  clear hrow hnil hb1 hr1 hn
  go_wp2_with fail
  go_loopw [3, 9] (fun l i wr => ∃ (j m c' : Nat) (oa' : Option Addr), j ≤ n ∧ Hid (m = j) ∧ i = .int .i64 j ∧ l = .slice oa' m c' ∧ Hid (rowAt wr 78 5 (.slice oa' m c') m (filesCells ((L.take j).map (·.f)))) ∧ Hid (∀ k, (Value.slice oa' m c').ownBlock = some k → w1.heap.size ≤ k) ∧ Hid (Below w1.heap.size w1 wr)) (fun l i wr => n - (intOf i).toNat)
  case atStart => exact ⟨0, 0, 0, none, Nat.zero_le _, Lib.hid rfl, rfl, rfl, Lib.hid ⟨by simp [filesCells], .inl ⟨rfl, rfl⟩⟩, Lib.hid (fun k hk => by simp [Value.ownBlock] at hk), Lib.hid (Below.refl _ _)⟩
  case round =>
    obtain ⟨j, m, c', oa', hjn, hmj, rfl, rfl, HRO, HLO, HBL⟩ := hrel
    by_cases hlt : j < n
    · have hjL : j < L.length := by rw [HN.out]; exact hlt
      obtain ⟨x, hx⟩ : ∃ x, L[j] = x := ⟨_, rfl⟩
      have hxm : x ∈ L := by rw [← hx]; exact List.getElem_mem _
      have hr2 := HR1.out.kept (fun k hk => HBL.out.block k (HR1.out.lt k hk))
      obtain ⟨g, off, rfl⟩ := hr2.addr (by omega)
      have hcx : wr.cell? ⟨g, off + j, none⟩ = some (encStr x.f.name) := hr2.cell1 (by simp [encN, hjL, hx])
      have hdr := H1.out.below HBL.out
      obtain ⟨nm, hnm⟩ : ∃ nm : ByteArray, nm = ⟨x.f.name.toArray⟩ := ⟨_, rfl⟩
      have hnmd : nm.data.toList = x.f.name := by rw [hnm]
      have hsz : nm.size ≤ maxLen := by
        have h3 := hdr.names x.f (by rw [← hdr.files]; exact List.mem_map_of_mem hxm)
        simp only [nameOk, Bool.and_eq_true, decide_eq_true_eq] at h3
        have h4 : nm.size = x.f.name.length := by rw [← hnmd]; exact Array.length_toList.symm
        unfold maxLen
        omega
      have henc : encStr x.f.name = .string nm := by rw [hnm]
      rw [henc] at hcx
      have hlk := hdr.lookup1_some hxm hsz hnmd.symm
      have c0 : wr.cell? ⟨q, 0, none⟩ = some (.map (some mb)) := cell_of hdr.head rfl
      have HT : Hid (Calls Try.prog 114 #[.string nm, .pointer (some ⟨x.blk, 0, none⟩)] wr fun e w' => e = .returned (tellV nm x.f) ∧ Below wr.heap.size wr w') := Lib.hid (tell_b (hdr.each x hxm) nm)
      have HX : Hid (fileCells x.f = [.string nm, .int .i64 x.f.bytes.length, .int .i64 x.f.lasts, .bool x.f.there, .bool x.f.named]) := Lib.hid (by unfold fileCells; rw [henc])
      have HTK : Hid ((L.take (j + 1)).map (·.f) = (L.take j).map (·.f) ++ [x.f]) := Lib.hid (by rw [List.take_succ_eq_append_getElem hjL, List.map_append, hx]; rfl)
      obtain ⟨a1, ha1⟩ : ∃ a1 : Value, Value.int .i64 (x.f.bytes.length : Int) = a1 := ⟨_, rfl⟩
      obtain ⟨a2, ha2⟩ : ∃ a2 : Value, Value.int .i64 (x.f.lasts : Int) = a2 := ⟨_, rfl⟩
      obtain ⟨a3, ha3⟩ : ∃ a3 : Value, Value.bool x.f.there = a3 := ⟨_, rfl⟩
      obtain ⟨a4, ha4⟩ : ∃ a4 : Value, Value.bool x.f.named = a4 := ⟨_, rfl⟩
      rw [ha1, ha2, ha3, ha4] at HX
      unfold tellV at HT
      rw [ha1, ha2, ha3, ha4] at HT
      clear hx hxm hr2 hdr hnm hnmd hsz henc ha1 ha2 ha3 ha4
      go_wp2_with fail
      refine HT.out.mono ?_
      rintro e w2 ⟨rfl, hb2⟩
      have hrw := HRO.out.kept (fun k hk => hb2.block k (HRO.out.lt k hk))
      have HRW := Lib.hid hrw
      have HB2 := Lib.hid hb2
      clear hrw hb2
      have HM : Hid (m ≤ 1000000) := Lib.hid (by have := hmj.out; omega)
      go_wp2_with (at_builtin; refine wpList_append_file rfl (.tmp 13) (.tmp 22) rfl HRW.out HM.out (by rw [← HX.out]; exact fileCells_one x.f) rfl rfl ?_; intro oa3 c3 w3 HR3 HG3 HOW)
      have HB3 : Hid (Below w1.heap.size w1 w3) := Lib.hid (((HBL.out.trans (HB2.out.mono HBL.out.size)).alloc (Nat.le_trans HBL.out.size HB2.out.size) _).grown HG3.out (by simp; have h1 := HBL.out.size; have h2 := HB2.out.size; omega) (fun k hk => HLO.out k hk))
      have HRN : Hid (rowAt w3 78 5 (.slice oa3 (m + 1) c3) (m + 1) (filesCells ((L.take (j + 1)).map (·.f)))) := Lib.hid (by rw [HTK.out, filesCells_snoc, HX.out]; exact HR3.out)
      have HLN2 : Hid (∀ k, (Value.slice oa3 (m + 1) c3).ownBlock = some k → w1.heap.size ≤ k) := Lib.hid (fun k hk => by
        rcases HOW.out with h1 | h1
        · exact HLO.out k (by rw [← h1]; exact hk)
        · rw [hk] at h1
          simp at h1
          have h2 := HBL.out.size
          have h3 := HB2.out.size
          omega)
      exact ⟨⟨j + 1, m + 1, c3, oa3, by omega, Lib.hid (by have := hmj.out; omega), by simp, rfl, HRN, HLN2, HB3⟩, by simp [intOf]; omega⟩
    · obtain rfl : j = n := by omega
      have HRF : Hid (rowAt wr 78 5 (.slice oa' m c') m (filesCells d.files) ∧ m = d.files.length) := Lib.hid (by
        have h1 := HRO.out
        rw [List.take_of_length_le (by rw [HN.out]; exact Nat.le_refl _), H1.out.files] at h1
        exact ⟨h1, by rw [hmj.out, ← H1.out.files, List.length_map, HN.out]⟩)
      go_wp2_with fail
      refine (valuesF_b _ _ _ _).mono ?_
      rintro e w3 ⟨rfl, rfl⟩
      have HS : Hid (AllIs w d.files (.returned (.func (.func 161) #[] #[.pointer (some ⟨wr.heap.size, 0, none⟩)])) (wr.alloc (.cells #[.slice oa' m c'] 76))) := Lib.hid (by
        have h1 := HB1.out.size
        have h2 := HBL.out.size
        refine ⟨wr.heap.size, rfl, ⟨_, alloc_cells _ _ _, ?_⟩, by omega, (HB1.out.trans (HBL.out.mono h1)).alloc (by omega) _⟩
        rw [← HRF.out.2]
        exact HRF.out.1.kept (fun k hk => Below.heap_alloc _ _ k (HRF.out.1.lt k hk)))
      clear HRF
      go_wp2_with fail
      go_ret
      exact HS.out
end Go.Proofs.Ytmkjejngnahpeaa
