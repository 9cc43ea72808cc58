/- Disk: Create. -/
import Derived.Test.YtmkjejngnahpeaaDw
namespace Go.Proofs.Ytmkjejngnahpeaa
open Go Go.Maps Go.RowKit

theorem OpIs.next {w w2 : World} {S : Nat → Prop} {q mb : Nat} {fv' : Value} {L : List Fl} {d1 : Dk} (ho : Only (fun k => k = q) w w2) (h2 : DiskIs w2 S q mb fv' L d1) (n : Int) : OpIs w S q (n, d1) (.returned (.int .i64 n)) w2 :=
  ⟨rfl, ⟨mb, fv', L, h2.wider (fun k hk => .inl hk) (fun k hk => by
    rcases hk with hk | hk
    · exact h2.low k hk
    · exact hk.2)⟩, ho.mono (fun i _ hi => by rw [hi]; exact h2.q_mem)⟩
def newF (s : List UInt8) : F0 := ⟨s, [], 0, true, false⟩
set_option maxRecDepth 100000 in
/-- a new file is put into the map -/
theorem set_new {w w2 w3 w4 : World} {S : Nat → Prop} {q mb n' : Nat} {fv' : Value} {L : List Fl} {d d1 : Dk} {D : DataW Unit} {s : List UInt8} (ho : Only (fun k => k = q) w w2) (h2 : DiskIs w2 S q mb fv' L d1) (hd : Dic D (L.map fun x => (x.f.name, x.blk)))
    (hw3 : w3 = w2.alloc (.cells #[.slice none 0 0, .int .i64 0, .bool true, .bool false] 178)) (hg : w3.grownBy w4 (some mb))
    (hm : w4.ownsMap Try.prog 9 ptrElem mb n' (D.put (.string s) (.lit (.int .i64 w2.heap.size)))) (hne : ∀ x ∈ L, x.f.name ≠ s) (hnm : nameOk s = true) (hfew : d1.files.length < 4096) (hf : d.files = d1.files) :
    OpIs w S q (0, { d1 with files := insF (newF s) d.files }) (.returned (.int .i64 0)) w4 := by
  obtain ⟨A, B, rfl, hi⟩ := insF_split (newF s) L
  have hi' : insF (newF s) d.files = A.map (·.f) ++ newF s :: B.map (·.f) := by rw [hf, ← h2.files]; exact hi
  have hmb : mb < w2.heap.size := h2.low _ (h2.foot _ (by simp [diskBlocks]))
  have hb3 : w3.heap[w2.heap.size]? = some (.cells #[.slice none 0 0, .int .i64 0, .bool true, .bool false] 178 (0, 0)) := by rw [hw3]; exact alloc_cells _ _ _
  have hs3 : w2.heap.size < w3.heap.size := by rw [hw3]; simp
  have ho4 : Only (fun k => k = mb) w2 w4 := by
    have h5 : Only (fun k => k = mb) w2 w3 := by rw [hw3]; exact only_alloc _ _ _
    exact h5.trans (Only.of_grown (S := fun k => k = mb) hg (fun k hk => by simp at hk; exact hk.symm)) (fun _ _ h => h)
  have hb4 : w4.heap[w2.heap.size]? = w3.heap[w2.heap.size]? := hg.block _ hs3 (by simp; omega)
  have h6 := h2.file_add (x' := ⟨newF s, w2.heap.size, .slice none 0 0⟩) (fs := insF (newF s) d.files) ho4
    ⟨hb4.trans hb3, ⟨by simp [byteCells, newF], .inl ⟨rfl, by simp [newF]⟩⟩, by simp [newF], by simp [newF]⟩ hm
    (hd.put s w2.heap.size (fun f => by
      simp only [List.map_append, List.map_cons, List.mem_append, List.mem_cons, newF]
      constructor
      · rintro (h | h | h) <;> simp [h]
      · rintro (h | h | h) <;> simp [h]) (fun f hf' => by
      obtain ⟨x, hx, rfl⟩ := List.mem_map.1 hf'
      exact hne x hx))
    (fun k hk => by
      simp only [Fl.blocks, Value.ownBlock, Option.toList_none, List.mem_singleton] at hk
      have := hg.size
      rw [hk]
      exact ⟨Nat.le_refl _, by omega⟩) (by simp [Fl.blocks, Value.ownBlock]) hi' (insF_sorted _ _ (by rw [hf]; exact h2.sorted) (fun g hg' => by
      have : g ∈ (A ++ B).map (·.f) := by rw [h2.files, ← hf]; exact hg'
      obtain ⟨x, hx, rfl⟩ := List.mem_map.1 this
      exact hne x hx)) hnm hfew
  refine ⟨rfl, ⟨mb, fv', _, h6.wider (fun k hk => ?_) (fun k hk => ?_)⟩, ?_⟩
  · rcases hk with hk | hk
    · exact .inl hk
    · exact .inr ⟨Nat.le_trans ho.size hk.1, hk.2⟩
  · rcases hk with hk | hk
    · exact Nat.lt_of_lt_of_le (h2.low k hk) ho4.size
    · exact hk.2
  · exact (ho.mono (fun i _ hi => by rw [hi]; exact h2.q_mem)).trans ho4 (fun i _ hi => by rw [hi]; exact h2.foot _ (by simp [diskBlocks]))
set_option maxRecDepth 100000 in
set_option maxHeartbeats 1000000 in
theorem create_b {w : World} {S : Nat → Prop} {q : Nat} {d : Dk} (h : DiskAt w S q d) (nm : ByteArray) (hs : nm.size ≤ maxLen) :
    Calls Try.prog 45 #[.pointer (some ⟨q, 0, none⟩), .string nm] w fun e w' => OpIs w S q (d.create nm.data.toList) e w' := by
  obtain ⟨mb, fv, L, h⟩ := h
  have c0 : w.cell? ⟨q, 0, none⟩ = some (.map (some mb)) := cell_of h.head rfl
  go_enter Try.func45, Try.ntmps45
  go_wp2_with fail
  refine (asked_b h nm hs).mono ?_
  rintro e w' ⟨rfl, rfl⟩
  cases hn : nameOk nm.data.toList with
  | false =>
    have HO : Hid (OpIs w' S q (d.create nm.data.toList) (.returned (.int .i64 2)) w') := Lib.hid (by
      rw [show d.create nm.data.toList = (2, d) by simp [Dk.create, hn]]
      exact OpIs.same h 2)
    rw [show askE nm.data.toList = 2 by simp [askE, hn]]
    clear h hn
    go_wp2_with fail
    go_ret
    exact HO.out
  | true =>
    rw [show askE nm.data.toList = 0 by simp [askE, hn]]
    cases ha : d.at nm.data.toList with
    | some f =>
      obtain ⟨A, x, B, hL, rfl, hxn⟩ := h.at_some ha
      have hl := h.lookup_some (x := x) (by rw [hL]; simp) hs hxn
      have HO : Hid (OpIs w' S q (d.create nm.data.toList) (.returned (.int .i64 170)) w') := Lib.hid (by
        rw [show d.create nm.data.toList = (170, d) by simp [Dk.create, hn, ha]]
        exact OpIs.same h 170)
      clear h hn ha hL hxn
      go_wp2_with fail
      go_ret
      exact HO.out
    | none =>
      have hne := h.at_none ha
      have hl := h.lookup_none hs hne
      obtain ⟨D, hown, hsz, hd⟩ := h.look
      have hlen : (Builtin.len_ #[120] 3 #[.map (some mb)]).run Try.prog w' = .ok (.int .i64 (L.length : Int)) w' := by
        have := hown.len (t := 120) Try.underlying120 3
        rw [hsz] at this
        exact this
      have hfl : d.files.length = L.length := by rw [← h.files, List.length_map]
      obtain ⟨n, hln⟩ : ∃ n, L.length = n := ⟨_, rfl⟩
      rw [hln] at hlen hfl
      have HC : Hid (nameOk nm.data.toList = true ∧ d.at nm.data.toList = none ∧ d.files.length = n) := Lib.hid ⟨hn, ha, hfl⟩
      have HNE := Lib.hid hne
      have H := Lib.hid h
      have HD := Lib.hid hd
      clear h hn ha hne hfl hd hsz hown
      by_cases hf : 4096 ≤ n
      · have hb : decide ((4096 : Int) ≤ (n : Int)) = true := by simp; omega
        have HO : Hid (OpIs w' S q (d.create nm.data.toList) (.returned (.int .i64 6)) w') := Lib.hid (by
          rw [show d.create nm.data.toList = (6, d) by simp [Dk.create, HC.out.1, HC.out.2.1, HC.out.2.2, hf]]
          exact OpIs.same H.out 6)
        go_wp2_with fail
        go_ret
        exact HO.out
      · have hb : decide ((4096 : Int) ≤ (n : Int)) = false := by simp; omega
        go_wp2_with fail
        refine (step_b H.out).mono ?_
        rintro e w1 ⟨kd, kp, fv', rfl, hkp, h1, ho1⟩
        obtain ⟨er, her⟩ : ∃ er, d.fate.1 = er := ⟨_, rfl⟩
        rw [her]
        have H1 := Lib.hid h1
        have HO1 := Lib.hid ho1
        have HE := Lib.hid her
        clear h1 ho1 hkp her hl hlen hb H HD c0
        go_upto_region 10 with fail
        obtain ⟨w2, hw2⟩ : ∃ w2 : World, w2 = w1.alloc (.cells #[.int .i64 kd, .int .i64 kp] 99) := ⟨_, rfl⟩
        obtain ⟨r, hr⟩ : ∃ r, r = w1.heap.size := ⟨_, rfl⟩
        have h2 : DiskIs w2 S q mb fv' L d.next := by rw [hw2]; exact H1.out.below ((Below.refl _ _).alloc (Nat.le_refl _) _)
        have ho2 : Only (fun k => k = q) w' w2 := by rw [hw2]; exact HO1.out.trans (only_alloc (fun k => k = q) _ _) (fun _ _ h => h)
        rw [← hw2, ← hr]
        clear hw2 hr H1 HO1
        have c0 : w2.cell? ⟨q, 0, none⟩ = some (.map (some mb)) := cell_of h2.head rfl
        have H2 := Lib.hid h2
        have HO2 := Lib.hid ho2
        clear h2 ho2
        by_cases h0 : er = 0
        · subst h0
          obtain ⟨D2, hown, hsz, hd⟩ := H2.out.look
          obtain ⟨w3, hw3⟩ : ∃ w3 : World, w3 = w2.alloc (.cells #[.slice none 0 0, .int .i64 0, .bool true, .bool false] 178) := ⟨_, rfl⟩
          have HOWN : Hid (w3.ownsMap Try.prog 9 ptrElem mb n D2) := Lib.hid (by rw [hw3, ← hln]; exact hown.alloc _)
          have HW3 := Lib.hid hw3
          have HD2 := Lib.hid hd
          clear hown hsz hd
          have hkey : keyOf Try.prog 9 (.string nm) = some (.string nm.data.toList) := WideMaps.keyOf_string_mk (P := Try.prog) Try.underlying9 hs
          have HKEY := Lib.hid hkey
          clear hkey
          go_wp2_with (at_mapUpdate; rw [← hw3]; refine wpList_mapUpdate_own _ rfl _ _ _ 120 rfl 9 176 (string_keyed Try.underlying9) Try.underlying120 ptrElem mb n D2 rfl HOWN.out (by unfold maxLen; omega) _ _ _ rfl rfl HKEY.out _ [] (ptrElem_mk _) ?_; intro w4 hown4 hg4; have HOWN4 := Lib.hid hown4; have HG4 := Lib.hid hg4; clear hown4 hg4)
          go_ret
          have := set_new HO2.out H2.out HD2.out HW3.out HG4.out HOWN4.out HNE.out HC.out.1 (by show d.files.length < 4096; rw [HC.out.2.2]; omega) (d := d) rfl
          simpa [Dk.create, HC.out.1, HC.out.2.1, HC.out.2.2, hf, HE.out, newF] using this
        · have hb0 : (er != 0) = true := by simpa using h0
          have HO : Hid (OpIs w' S q (d.create nm.data.toList) (.returned (.int .i64 er)) w2) := Lib.hid (by
            rw [show d.create nm.data.toList = (er, d.next) by simp [Dk.create, HC.out.1, HC.out.2.1, HC.out.2.2, hf, HE.out, h0]]
            exact OpIs.next HO2.out H2.out er)
          clear h0
          go_wp2_with fail
          go_ret
          exact HO.out
end Go.Proofs.Ytmkjejngnahpeaa
