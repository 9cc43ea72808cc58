/- The texts Fh, Fi, Fj in one. -/
import Derived.Test.YtmkjejngnahpeaaB3
/- Disk: Names, the walk. -/
namespace Go.Proofs.Ytmkjejngnahpeaa
open Go Go.Maps Go.RowKit
open Go.Proofs (encStr)

theorem encN_take_filter {L : List Fl} {m k : Nat} {xs : List Value} (h : Parted L m k xs) (hm : L.length ≤ m) : xs.take k = encN (L.filter (·.f.there)) ∧ k = (L.filter (·.f.there)).length := by
  have h1 := h.kept
  have h2 := h.k
  rw [List.take_of_length_le hm] at h1 h2
  exact ⟨h1, h2⟩
set_option maxRecDepth 100000 in
set_option maxHeartbeats 1000000 in
theorem deleteGone_b {w : World} {S : Nat → Prop} {q mb : Nat} {fv : Value} {L : List Fl} {d : Dk} (h : DiskIs w S q mb fv L d) {b : Nat} (hb : w.cell? ⟨b, 0, none⟩ = some (.pointer (some ⟨q, 0, none⟩)))
    {v : Value} {n : Nat} (hn : L.length = n) (hr : rowAt w 9 1 v n (encN L)) (hm : n ≤ 1000000000) (hv : ∀ k, v.ownBlock = some k → ¬ S k ∧ k ≠ b) :
    Calls Try.prog 125 #[v, .func (.func 126) #[] #[.pointer (some ⟨b, 0, none⟩)]] w fun e w' => ∃ v', e = .returned v' ∧ rowAt w' 9 1 v' (L.filter (·.f.there)).length (encN (L.filter (·.f.there))) ∧ v'.ownBlock = v.ownBlock ∧ w.grownBy w' v.ownBlock := by
  obtain ⟨oa, c, rfl, hnc⟩ := hr.shape
  have H := Lib.hid h
  have HR := Lib.hid hr
  have HB := Lib.hid hb
  have HV := Lib.hid hv
  have HN := Lib.hid hn
  have hbl : b < w.heap.size := World.block_lt_of_cell? w _ hb
  have hm0 := hr.map0.1
  clear h hr hb hv hn
  go_enter Try.func125, Try.ntmps125
  go_wp2_with fail
  refine (indexGone_b H.out HB.out HN.out HR.out hm).mono ?_
  rintro e w' ⟨i, rfl, hi, rfl⟩
  rcases hi with ⟨rfl, ha⟩ | ⟨k, hk, rfl, ha, hc⟩
  · have e : L.filter (·.f.there) = L := List.filter_eq_self.2 ha
    have HE := Lib.hid e
    clear ha e
    go_wp2_with fail
    go_ret
    exact ⟨_, rfl, by rw [HE.out, HN.out]; exact HR.out, rfl, World.grownBy.refl _ _⟩
  · have hkn : k < n := by rw [← HN.out]; exact hk
    obtain ⟨g, off, rfl⟩ := HR.out.addr (by omega)
    have hgS := HV.out g rfl
    have hgl : g < w'.heap.size := HR.out.lt g rfl
    have HP := Lib.hid (Parted.start hk ha hc)
    have hk1 : ¬ ((k : Int) = -1) := by omega
    have hk2 : (((k : Nat) : Int) == -1) = false := by simp
    clear ha hc hk
    go_wp2_with fail
    go_loopw [5, 6] (fun i j wr => ∃ (m k : Nat) (xs : List Value), i = .int .i64 k ∧ j = .int .i64 m ∧ m ≤ n ∧ k < m ∧ Hid (Parted L m k xs) ∧ Hid (rowAt wr 9 1 (.slice (some ⟨g, off, none⟩) n c) n xs) ∧ Hid (Only (fun x => x = g) w' wr))
      (fun i j wr => n - (intOf j).toNat)
    case atStart => exact ⟨k + 1, k, _, rfl, by simp, by omega, by omega, HP, HR, Lib.hid (Only.refl _ _)⟩
    case round =>
      obtain ⟨m, k', xs, rfl, rfl, hmn, hkm, HPA, HRO, HO⟩ := hrel
      by_cases hlt : m < n
      · have hmL : m < L.length := by rw [HN.out]; exact hlt
        obtain ⟨x, hx⟩ : ∃ x, L[m] = x := ⟨_, rfl⟩
        have hxm : x ∈ L := by rw [← hx]; exact List.getElem_mem _
        have hcx : wr.cell? ⟨g, off + m, none⟩ = some (encStr x.f.name) := HRO.out.cell1 (by rw [HPA.out.rest m (Nat.le_refl _)]; simp [encN, hmL, hx])
        have hkx : k' < xs.length := by rw [HPA.out.len]; omega
        have hck : wr.cell? ⟨g, off + k', none⟩ = some (xs[k']) := HRO.out.cell1 (by simp [hkx])
        have hfk : wr.frozen? ⟨g, off + k', none⟩ = false := HRO.out.free (by omega)
        obtain ⟨th, hth⟩ : ∃ th, x.f.there = th := ⟨_, rfl⟩
        have hdw := H.out.only HO.out (fun j hj he => hgS.1 (he ▸ hj))
        have hbw : wr.cell? ⟨b, 0, none⟩ = some (.pointer (some ⟨q, 0, none⟩)) := by rw [← HB.out]; exact cell_kept_at (HO.out.block b hbl (fun he => hgS.2 he.symm))
        have HC : Hid (Calls Try.prog 126 #[encStr x.f.name, .pointer (some ⟨b, 0, none⟩)] wr fun e w' => e = .returned (.bool (!th)) ∧ w' = wr) := Lib.hid (by rw [← hth]; exact name1_b hdw hxm hbw)
        have HXE : Hid (L[m].f.there = th ∧ encStr L[m].f.name = encStr x.f.name) := Lib.hid ⟨by rw [hx]; exact hth, by rw [hx]⟩
        obtain ⟨sv, hsv⟩ : ∃ sv : ByteArray, encStr x.f.name = .string sv := ⟨_, rfl⟩
        rw [hsv] at hcx HC HXE
        clear hx hxm hth hdw hbw hsv
        cases th
        · have HPN := Lib.hid (HPA.out.skip hmL HXE.out.1)
          go_wp2_with (go_at_call 126; refine HC.out.mono ?_; rintro e w' ⟨rfl, rfl⟩)
          exact ⟨⟨m + 1, k', xs, rfl, by simp, by omega, by omega, HPN, HRO, HO⟩, by simp [intOf]; omega⟩
        · have HPN := Lib.hid (HPA.out.keep hmL HXE.out.1)
          have HRN : Hid (rowAt (wr.setCell ⟨g, off + k', none⟩ (.string sv)) 9 1 (.slice (some ⟨g, off, none⟩) n c) n (xs.set k' (encStr L[m].f.name))) := Lib.hid (by rw [HXE.out.2]; exact HRO.out.set _)
          have HON : Hid (Only (fun x => x = g) w' (wr.setCell ⟨g, off + k', none⟩ (.string sv))) := Lib.hid (HO.out.trans (only_setCell (fun x => x = g) _ _ _ _ rfl) (fun _ _ h => h))
          go_wp2_with (go_at_call 126; refine HC.out.mono ?_; rintro e w' ⟨rfl, rfl⟩)
          exact ⟨⟨m + 1, k' + 1, _, by simp, by simp, by omega, by omega, HPN, HRN, HON⟩, by simp [intOf]; omega⟩
      · obtain rfl : m = n := by omega
        obtain ⟨w9, hclr, hr9, hg9⟩ := run_clear_at HRO.out (i := k') (by omega)
        obtain ⟨hx1, hx2⟩ := encN_take_filter HPA.out (by rw [HN.out]; exact Nat.le_refl _)
        have hdrop := fun W => drop_run g off m c k' (by omega) W
        rw [if_neg (show ¬ c = k' by omega)] at hclr
        simp only [if_neg (show ¬ c = k' by omega)] at hdrop
        have htake := fun W => take_run (oa := some ⟨g, off, none⟩) (n := m) (c := c) k' (by omega) rfl W
        have HX : Hid (rowAt w9 9 1 (.slice (some ⟨g, off, none⟩) k' c) k' (encN (L.filter (·.f.there))) ∧ k' = (L.filter (·.f.there)).length) := Lib.hid ⟨by rw [← hx1]; exact hr9, hx2⟩
        have HG9 : Hid (w'.grownBy w9 (some g)) := Lib.hid ((Only.grown HO.out (fun k _ hk => by rw [hk])).andThen hg9 (fun j hj => by cases hj; exact Or.inr rfl))
        clear hx1 hx2 hr9 hg9
        go_wp2_with fail
        go_ret
        exact ⟨_, rfl, by rw [← HX.out.2]; exact HX.out.1, rfl, HG9.out⟩
end Go.Proofs.Ytmkjejngnahpeaa
/- Disk: Names. -/
namespace Go.Proofs.Ytmkjejngnahpeaa
open Go Go.Maps Go.RowKit
open Go.Proofs (encStr)

/-- the names of the files that are there -/
def Dk.names (d : Dk) : List (List UInt8) := (d.files.filter (·.there)).map (·.name)
theorem encN_names {L : List Fl} {d : Dk} (h : L.map (·.f) = d.files) : encN (L.filter (·.f.there)) = d.names.map encStr ∧ (L.filter (·.f.there)).length = d.names.length := by
  have e : d.names = (L.filter (·.f.there)).map (·.f.name) := by
    unfold Dk.names
    rw [← h, List.filter_map, List.map_map]
    rfl
  rw [e]
  exact ⟨by simp [encN, List.map_map, Function.comp_def], by simp⟩
set_option maxRecDepth 100000 in
set_option maxHeartbeats 1000000 in
theorem Names_b {w : World} {S : Nat → Prop} {q : Nat} {d : Dk} (h : DiskAt w S q d) :
    Calls Try.prog 52 #[.pointer (some ⟨q, 0, none⟩)] w fun e w' => ∃ v, e = .returned v ∧ rowAt w' 9 1 v d.names.length (d.names.map encStr) ∧ (∀ k, v.ownBlock = some k → w.heap.size ≤ k) ∧ Below w.heap.size w w' := by
  obtain ⟨mb, fv, L, h⟩ := h
  obtain ⟨hE1, hE2⟩ := encN_names h.files
  have HE := Lib.hid (And.intro hE1 hE2)
  have hlen : L.length ≤ 4096 := by
    have h1 := h.few
    rw [← h.files, List.length_map] at h1
    exact h1
  have HLN := Lib.hid hlen
  clear hE1 hE2 hlen
  go_enter Try.func52, Try.ntmps52
  go_upto_region 1 with fail
  obtain ⟨w1, hw1⟩ : ∃ w1 : World, w1 = w.alloc (.cells #[.pointer (some ⟨q, 0, none⟩)] 37) := ⟨_, rfl⟩
  obtain ⟨b, hb⟩ : ∃ b, b = w.heap.size := ⟨_, rfl⟩
  have hc1 : w1.heap[b]? = some (.cells #[.pointer (some ⟨q, 0, none⟩)] 37 (0, 0)) := by rw [hw1, hb]; exact alloc_cells _ _ _
  have hb1 : Below w.heap.size w w1 := by rw [hw1]; exact (Below.refl _ _).alloc (Nat.le_refl _) _
  rw [← hb, ← hw1]
  have HB1 := Lib.hid hb1
  have H1 := Lib.hid (h.below hb1)
  have HBB := Lib.hid hb
  clear hw1 hb hb1 h
  have c0 : w1.cell? ⟨b, 0, none⟩ = some (.pointer (some ⟨q, 0, none⟩)) := cell_of hc1 rfl
  have HC1 := Lib.hid hc1
  clear hc1
  go_wp2_with fail
  refine (names_b H1.out).mono ?_
  rintro e w2 ⟨v, rfl, hrow, hnil, hb2⟩
  have hr2 := rowAt.of_row (hasRow.of_own hrow)
  have hlow := (hasRow.of_own hrow).lt
  have hbl : b < w1.heap.size := (Array.getElem?_eq_some_iff.1 HC1.out).1
  have hc2 : w2.cell? ⟨b, 0, none⟩ = some (.pointer (some ⟨q, 0, none⟩)) := cell_of ((hb2.block b hbl).trans HC1.out) rfl
  have HD : Hid (Calls Try.prog 125 #[v, .func (.func 126) #[] #[.pointer (some ⟨b, 0, none⟩)]] w2 fun e w' => ∃ v', e = .returned v' ∧ rowAt w' 9 1 v' (L.filter (·.f.there)).length (encN (L.filter (·.f.there))) ∧ v'.ownBlock = v.ownBlock ∧ w2.grownBy w' v.ownBlock) := Lib.hid
    (deleteGone_b (H1.out.below hb2) hc2 rfl hr2 (by have := HLN.out; omega) (fun k hk => ⟨fun hs => by
      have h1 := H1.out.low k hs
      have h2 := (hlow k hk).1
      omega, fun e => by have h2 := (hlow k hk).1; omega⟩))
  have HB2 : Hid (Below w.heap.size w w2 ∧ w1.heap.size ≤ w2.heap.size) := Lib.hid ⟨HB1.out.trans (hb2.mono HB1.out.size), hb2.size⟩
  have HLOW := Lib.hid hlow
  clear hrow hnil hb2 hr2 hlow hc2 c0 hbl
  go_wp2_with fail
  refine HD.out.mono ?_
  rintro e w3 ⟨v', rfl, hr3, hv3, hg3⟩
  have hb3 : Below w.heap.size w w3 := HB2.out.1.grown hg3 HB2.out.1.size (fun k hk => by
    have h1 := (HLOW.out k hk).1
    have h2 := HB1.out.size
    omega)
  have HR : Hid (rowAt w3 9 1 v' d.names.length (d.names.map encStr)) := Lib.hid (by rw [← HE.out.1, ← HE.out.2]; exact hr3)
  have HV : Hid (∀ k, v'.ownBlock = some k → w.heap.size ≤ k) := Lib.hid (fun k hk => by
    rw [hv3] at hk
    have h1 := (HLOW.out k hk).1
    have h2 := HB1.out.size
    omega)
  have HB3 := Lib.hid hb3
  clear hr3 hv3 hg3 hb3
  go_wp2_with fail
  go_ret
  exact ⟨_, rfl, HR.out, HV.out, HB3.out⟩
end Go.Proofs.Ytmkjejngnahpeaa
/- Disk: All: what the disk tells of its files. -/
namespace Go.Proofs.Ytmkjejngnahpeaa
open Go Go.Maps Go.RowKit
open Go.Proofs (encStr)

/-- how a file is told: its cells -/
def fileCells (f : F0) : List Value := [encStr f.name, .int .i64 f.bytes.length, .int .i64 f.lasts, .bool f.there, .bool f.named]
def filesCells (l : List F0) : List Value := l.flatMap fileCells
theorem filesCells_snoc (l : List F0) (f : F0) : filesCells (l ++ [f]) = filesCells l ++ fileCells f := by simp [filesCells]
theorem filesCells_length : ∀ l : List F0, (filesCells l).length = l.length * 5
  | [] => rfl
  | f :: r => by
    have : filesCells (f :: r) = fileCells f ++ filesCells r := rfl
    rw [this, List.length_append, filesCells_length r]
    simp [fileCells]
    omega
theorem fileCells_one (f : F0) : ∀ v ∈ fileCells f, v.oneCell' = true := by
  intro v hv
  simp only [fileCells, List.mem_cons, List.not_mem_nil, or_false] at hv
  rcases hv with rfl | rfl | rfl | rfl | rfl <;> rfl
theorem info_file : (Try.prog.info? 78).map (fun i => (i.zero, i.size, i.bytes)) = some (some (.agg #[.string ⟨#[]⟩, .int .i64 0, .int .i64 0, .bool false, .bool false]), 5, 40) := by kernel_rfl
theorem five_row (w : World) (a b c d e : Value) : rowAt (w.alloc (.cells #[a, b, c, d, e] 78)) 78 5 (.slice (some ⟨w.heap.size, 0, none⟩) 1 1) 1 [a, b, c, d, e] :=
  ⟨rfl, .inr ⟨_, 0, 1, _, _, rfl, alloc_cells _ _ _, Nat.le_refl _, by unfold maxLen; omega, by simp, freeRow_zero _, rfl⟩⟩
/-- block vb holds the list of files that is gone over -/
def SeqAt (w : World) (vb : Nat) (l : List F0) : Prop := ∃ v, w.heap[vb]? = some (.cells #[v] 76 (0, 0)) ∧ rowAt w 78 5 v l.length (filesCells l)
theorem SeqAt.kept {w w' : World} {B vb : Nat} {l : List F0} (h : SeqAt w vb l) (hb : Below B w w') (hB : w.heap.size ≤ B) : SeqAt w' vb l := by
  obtain ⟨v, h1, h2⟩ := h
  exact ⟨v, (hb.block vb (Nat.lt_of_lt_of_le (Array.getElem?_eq_some_iff.1 h1).1 hB)).trans h1, h2.kept (fun k hk => hb.block k (Nat.lt_of_lt_of_le (h2.lt k hk) hB))⟩
set_option maxHeartbeats 400000 in
theorem valuesF_b (w : World) (oa : Option Addr) (n c : Nat) : Calls Try.prog 115 #[.slice oa n c] w fun e w' => e = .returned (.func (.func 161) #[] #[.pointer (some ⟨w.heap.size, 0, none⟩)]) ∧ w' = w.alloc (.cells #[.slice oa n c] 76) := by
  go_enter Try.func115, Try.ntmps115
  go_wp2_with fail
  go_ret
  exact ⟨rfl, rfl⟩
/-- what All hands back -/
def AllIs (w : World) (l : List F0) (e : Ending) (w' : World) : Prop :=
  ∃ vb, e = .returned (.func (.func 161) #[] #[.pointer (some ⟨vb, 0, none⟩)]) ∧ SeqAt w' vb l ∧ w.heap.size ≤ vb ∧ Below w.heap.size w w'
theorem wpList_append_file {w2 : World} {ops : Array Oper} {rest : List Oper} {o : Oper} {a : Act} {Q : Exit → Act → World → Prop} (hgd : o.guard = none) (s x : Operand)
    (ho : o.op = .call { callee := .builtin .append, args := #[s, x], argTypes := #[76, 76] })
    {oa : Option Addr} {m c : Nat} {xs : List Value} {nm : ByteArray} {a1 a2 a3 a4 : Value} (h : rowAt w2 78 5 (.slice oa m c) m xs) (hm : m ≤ 1000000) (h1 : ∀ v ∈ [.string nm, a1, a2, a3, a4], v.oneCell' = true)
    (hs : a.eval s = .slice oa m c) (hx : a.eval x = .slice (some ⟨w2.heap.size, 0, none⟩) 1 1)
    (hK : ∀ oa3 c3 w3, Hid (rowAt w3 78 5 (.slice oa3 (m + 1) c3) (m + 1) (xs ++ [.string nm, a1, a2, a3, a4])) → Hid ((w2.alloc (.cells #[.string nm, a1, a2, a3, a4] 78)).grownBy w3 (Value.slice oa m c).ownBlock) →
      Hid ((Value.slice oa3 (m + 1) c3).ownBlock = (Value.slice oa m c).ownBlock ∨ (Value.slice oa3 (m + 1) c3).ownBlock = some (w2.heap.size + 1)) → wpList Try.prog ops Q rest (a.put o.dst (.slice oa3 (m + 1) c3)) w3) :
    wpList Try.prog ops Q (o :: rest) a (w2.alloc (.cells #[.string nm, a1, a2, a3, a4] 78)) := by
  refine wpList_append_at _ hgd s x 76 76 ho 78 (.agg #[.string ⟨#[]⟩, .int .i64 0, .int .i64 0, .bool false, .bool false]) 5 40 Try.underlying76 info_file rfl _ m xs hs (h.kept (fun k hk => Below.heap_alloc _ _ k (h.lt k hk))) _ 1 _ hx (Src.of_row Try.underlying76 (five_row w2 (.string nm) a1 a2 a3 a4) h1) (by unfold maxLen; omega) (by omega) ?_
  intro v' w3 hr hg hown _
  obtain ⟨oa3, c3, rfl, _⟩ := hr.shape
  exact hK oa3 c3 w3 (Lib.hid hr) (Lib.hid hg) (Lib.hid (by simpa using hown))
set_option maxRecDepth 100000 in
set_option maxHeartbeats 1000000 in
theorem all_b {w : World} {S : Nat → Prop} {q : Nat} {d : Dk} (h : DiskAt w S q d) :
    Calls Try.prog 41 #[.pointer (some ⟨q, 0, none⟩)] w fun e w' => AllIs w d.files e w' := by
  obtain ⟨mb, fv, L, h⟩ := h
  have hlen : L.length ≤ 4096 := by
    have h1 := h.few
    rw [← h.files, List.length_map] at h1
    exact h1
  have H := Lib.hid h
  have HLN := Lib.hid hlen
  clear h
  go_enter Try.func41, Try.ntmps41
  go_wp2_with fail
  refine (names_b H.out).mono ?_
  rintro e w1 ⟨v, rfl, hrow, hnil, hb1⟩
  have hr1 := rowAt.of_row (hasRow.of_own hrow)
  have H1 := Lib.hid (H.out.below hb1)
  obtain ⟨oa, c, rfl, _⟩ := hr1.shape
  obtain ⟨n, hn⟩ : ∃ n, L.length = n := ⟨_, rfl⟩
  rw [hn] at hr1 HLN hlen ⊢
  have HR1 : Hid (rowAt w1 9 1 (.slice oa n c) n (encN L)) := Lib.hid hr1
  have HB1 := Lib.hid hb1
  have HN := Lib.hid hn
  clear hrow hnil hb1 hr1 hn
  go_wp2_with fail
  go_loopw [3, 9] (fun l i wr => ∃ (j m c' : Nat) (oa' : Option Addr), j ≤ n ∧ Hid (m = j) ∧ i = .int .i64 j ∧ l = .slice oa' m c' ∧ Hid (rowAt wr 78 5 (.slice oa' m c') m (filesCells ((L.take j).map (·.f)))) ∧ Hid (∀ k, (Value.slice oa' m c').ownBlock = some k → w1.heap.size ≤ k) ∧ Hid (Below w1.heap.size w1 wr)) (fun l i wr => n - (intOf i).toNat)
  case atStart => exact ⟨0, 0, 0, none, Nat.zero_le _, Lib.hid rfl, rfl, rfl, Lib.hid ⟨by simp [filesCells], .inl ⟨rfl, rfl⟩⟩, Lib.hid (fun k hk => by simp [Value.ownBlock] at hk), Lib.hid (Below.refl _ _)⟩
  case round =>
    obtain ⟨j, m, c', oa', hjn, hmj, rfl, rfl, HRO, HLO, HBL⟩ := hrel
    by_cases hlt : j < n
    · have hjL : j < L.length := by rw [HN.out]; exact hlt
      obtain ⟨x, hx⟩ : ∃ x, L[j] = x := ⟨_, rfl⟩
      have hxm : x ∈ L := by rw [← hx]; exact List.getElem_mem _
      have hr2 := HR1.out.kept (fun k hk => HBL.out.block k (HR1.out.lt k hk))
      obtain ⟨g, off, rfl⟩ := hr2.addr (by omega)
      have hcx : wr.cell? ⟨g, off + j, none⟩ = some (encStr x.f.name) := hr2.cell1 (by simp [encN, hjL, hx])
      have hdr := H1.out.below HBL.out
      obtain ⟨nm, hnm⟩ : ∃ nm : ByteArray, nm = ⟨x.f.name.toArray⟩ := ⟨_, rfl⟩
      have hnmd : nm.data.toList = x.f.name := by rw [hnm]
      have hsz : nm.size ≤ maxLen := by
        have h3 := hdr.names x.f (by rw [← hdr.files]; exact List.mem_map_of_mem hxm)
        simp only [nameOk, Bool.and_eq_true, decide_eq_true_eq] at h3
        have h4 : nm.size = x.f.name.length := by rw [← hnmd]; exact Array.length_toList.symm
        unfold maxLen
        omega
      have henc : encStr x.f.name = .string nm := by rw [hnm]
      rw [henc] at hcx
      have hlk := hdr.lookup1_some hxm hsz hnmd.symm
      have c0 : wr.cell? ⟨q, 0, none⟩ = some (.map (some mb)) := cell_of hdr.head rfl
      have HT : Hid (Calls Try.prog 114 #[.string nm, .pointer (some ⟨x.blk, 0, none⟩)] wr fun e w' => e = .returned (tellV nm x.f) ∧ Below wr.heap.size wr w') := Lib.hid (tell_b (hdr.each x hxm) nm)
      have HX : Hid (fileCells x.f = [.string nm, .int .i64 x.f.bytes.length, .int .i64 x.f.lasts, .bool x.f.there, .bool x.f.named]) := Lib.hid (by unfold fileCells; rw [henc])
      have HTK : Hid ((L.take (j + 1)).map (·.f) = (L.take j).map (·.f) ++ [x.f]) := Lib.hid (by rw [List.take_succ_eq_append_getElem hjL, List.map_append, hx]; rfl)
      obtain ⟨a1, ha1⟩ : ∃ a1 : Value, Value.int .i64 (x.f.bytes.length : Int) = a1 := ⟨_, rfl⟩
      obtain ⟨a2, ha2⟩ : ∃ a2 : Value, Value.int .i64 (x.f.lasts : Int) = a2 := ⟨_, rfl⟩
      obtain ⟨a3, ha3⟩ : ∃ a3 : Value, Value.bool x.f.there = a3 := ⟨_, rfl⟩
      obtain ⟨a4, ha4⟩ : ∃ a4 : Value, Value.bool x.f.named = a4 := ⟨_, rfl⟩
      rw [ha1, ha2, ha3, ha4] at HX
      unfold tellV at HT
      rw [ha1, ha2, ha3, ha4] at HT
      clear hx hxm hr2 hdr hnm hnmd hsz henc ha1 ha2 ha3 ha4
      go_wp2_with fail
      refine HT.out.mono ?_
      rintro e w2 ⟨rfl, hb2⟩
      have hrw := HRO.out.kept (fun k hk => hb2.block k (HRO.out.lt k hk))
      have HRW := Lib.hid hrw
      have HB2 := Lib.hid hb2
      clear hrw hb2
      have HM : Hid (m ≤ 1000000) := Lib.hid (by have := hmj.out; omega)
      go_wp2_with (at_builtin; refine wpList_append_file rfl (.tmp 13) (.tmp 22) rfl HRW.out HM.out (by rw [← HX.out]; exact fileCells_one x.f) rfl rfl ?_; intro oa3 c3 w3 HR3 HG3 HOW)
      have HB3 : Hid (Below w1.heap.size w1 w3) := Lib.hid (((HBL.out.trans (HB2.out.mono HBL.out.size)).alloc (Nat.le_trans HBL.out.size HB2.out.size) _).grown HG3.out (by simp; have h1 := HBL.out.size; have h2 := HB2.out.size; omega) (fun k hk => HLO.out k hk))
      have HRN : Hid (rowAt w3 78 5 (.slice oa3 (m + 1) c3) (m + 1) (filesCells ((L.take (j + 1)).map (·.f)))) := Lib.hid (by rw [HTK.out, filesCells_snoc, HX.out]; exact HR3.out)
      have HLN2 : Hid (∀ k, (Value.slice oa3 (m + 1) c3).ownBlock = some k → w1.heap.size ≤ k) := Lib.hid (fun k hk => by
        rcases HOW.out with h1 | h1
        · exact HLO.out k (by rw [← h1]; exact hk)
        · rw [hk] at h1
          simp at h1
          have h2 := HBL.out.size
          have h3 := HB2.out.size
          omega)
      exact ⟨⟨j + 1, m + 1, c3, oa3, by omega, Lib.hid (by have := hmj.out; omega), by simp, rfl, HRN, HLN2, HB3⟩, by simp [intOf]; omega⟩
    · obtain rfl : j = n := by omega
      have HRF : Hid (rowAt wr 78 5 (.slice oa' m c') m (filesCells d.files) ∧ m = d.files.length) := Lib.hid (by
        have h1 := HRO.out
        rw [List.take_of_length_le (by rw [HN.out]; exact Nat.le_refl _), H1.out.files] at h1
        exact ⟨h1, by rw [hmj.out, ← H1.out.files, List.length_map, HN.out]⟩)
      go_wp2_with fail
      refine (valuesF_b _ _ _ _).mono ?_
      rintro e w3 ⟨rfl, rfl⟩
      have HS : Hid (AllIs w d.files (.returned (.func (.func 161) #[] #[.pointer (some ⟨wr.heap.size, 0, none⟩)])) (wr.alloc (.cells #[.slice oa' m c'] 76))) := Lib.hid (by
        have h1 := HB1.out.size
        have h2 := HBL.out.size
        refine ⟨wr.heap.size, rfl, ⟨_, alloc_cells _ _ _, ?_⟩, by omega, (HB1.out.trans (HBL.out.mono h1)).alloc (by omega) _⟩
        rw [← HRF.out.2]
        exact HRF.out.1.kept (fun k hk => Below.heap_alloc _ _ k (HRF.out.1.lt k hk)))
      clear HRF
      go_wp2_with fail
      go_ret
      exact HS.out
end Go.Proofs.Ytmkjejngnahpeaa
