/- The texts Dx, Dz, Mk in one. -/
import Derived.Test.YtlgcoaeddeiegaaGreatV2
import Derived.Deep.RegionLaw
import Derived.Test.YtlgcoaeddeiegaaGreatV3
/- Disk: Create. -/
namespace Go.Proofs.YtlgcoaeddeiegaaGreat
open Go Go.Maps Go.RowKit

theorem OpIs.next {w w2 : World} {S : Nat → Prop} {q mb : Nat} {fv' : Value} {L : List Fl} {d1 : Dk} (ho : Only (fun k => k = q) w w2) (h2 : DiskIs w2 S q mb fv' L d1) (n : Int) : OpIs w S q (n, d1) (.returned (.int .i64 n)) w2 :=
  ⟨rfl, ⟨mb, fv', L, h2.wider (fun k hk => .inl hk) (fun k hk => by
    rcases hk with hk | hk
    · exact h2.low k hk
    · exact hk.2)⟩, ho.mono (fun i _ hi => by rw [hi]; exact h2.q_mem)⟩
def newF (s : List UInt8) : F0 := ⟨s, [], 0, true, false⟩
set_option maxRecDepth 100000 in
/-- a new file is put into the map -/
theorem set_new {w w2 w3 w4 : World} {S : Nat → Prop} {q mb n' : Nat} {fv' : Value} {L : List Fl} {d d1 : Dk} {D : DataW Unit} {s : List UInt8} (ho : Only (fun k => k = q) w w2) (h2 : DiskIs w2 S q mb fv' L d1) (hd : Dic D (L.map fun x => (x.f.name, x.blk)))
    (hw3 : w3 = w2.alloc (.cells #[.slice none 0 0, .int .i64 0, .bool true, .bool false] 179)) (hg : w3.grownBy w4 (some mb))
    (hm : w4.ownsMap Tryz.prog 9 ptrElem mb n' (D.put (.string s) (.lit (.int .i64 w2.heap.size)))) (hne : ∀ x ∈ L, x.f.name ≠ s) (hnm : nameOk s = true) (hfew : d1.files.length < 4096) (hf : d.files = d1.files) :
    OpIs w S q (0, { d1 with files := insF (newF s) d.files }) (.returned (.int .i64 0)) w4 := by
  obtain ⟨A, B, rfl, hi⟩ := insF_split (newF s) L
  have hi' : insF (newF s) d.files = A.map (·.f) ++ newF s :: B.map (·.f) := by rw [hf, ← h2.files]; exact hi
  have hmb : mb < w2.heap.size := h2.low _ (h2.foot _ (by simp [diskBlocks]))
  have hb3 : w3.heap[w2.heap.size]? = some (.cells #[.slice none 0 0, .int .i64 0, .bool true, .bool false] 179 (0, 0)) := by rw [hw3]; exact alloc_cells _ _ _
  have hs3 : w2.heap.size < w3.heap.size := by rw [hw3]; simp
  have ho4 : Only (fun k => k = mb) w2 w4 := by
    have h5 : Only (fun k => k = mb) w2 w3 := by rw [hw3]; exact only_alloc _ _ _
    exact h5.trans (Only.of_grown (S := fun k => k = mb) hg (fun k hk => by simp at hk; exact hk.symm)) (fun _ _ h => h)
  have hb4 : w4.heap[w2.heap.size]? = w3.heap[w2.heap.size]? := hg.block _ hs3 (by simp; omega)
  have h6 := h2.file_add (x' := ⟨newF s, w2.heap.size, .slice none 0 0⟩) (fs := insF (newF s) d.files) ho4
    ⟨hb4.trans hb3, ⟨by simp [byteCells, newF], .inl ⟨rfl, by simp [newF]⟩⟩, by simp [newF], by simp [newF]⟩ hm
    (hd.put s w2.heap.size (fun f => by
      simp only [List.map_append, List.map_cons, List.mem_append, List.mem_cons, newF]
      constructor
      · rintro (h | h | h) <;> simp [h]
      · rintro (h | h | h) <;> simp [h]) (fun f hf' => by
      obtain ⟨x, hx, rfl⟩ := List.mem_map.1 hf'
      exact hne x hx))
    (fun k hk => by
      simp only [Fl.blocks, Value.ownBlock, Option.toList_none, List.mem_singleton] at hk
      have := hg.size
      rw [hk]
      exact ⟨Nat.le_refl _, by omega⟩) (by simp [Fl.blocks, Value.ownBlock]) hi' (insF_sorted _ _ (by rw [hf]; exact h2.sorted) (fun g hg' => by
      have : g ∈ (A ++ B).map (·.f) := by rw [h2.files, ← hf]; exact hg'
      obtain ⟨x, hx, rfl⟩ := List.mem_map.1 this
      exact hne x hx)) hnm hfew
  refine ⟨rfl, ⟨mb, fv', _, h6.wider (fun k hk => ?_) (fun k hk => ?_)⟩, ?_⟩
  · rcases hk with hk | hk
    · exact .inl hk
    · exact .inr ⟨Nat.le_trans ho.size hk.1, hk.2⟩
  · rcases hk with hk | hk
    · exact Nat.lt_of_lt_of_le (h2.low k hk) ho4.size
    · exact hk.2
  · exact (ho.mono (fun i _ hi => by rw [hi]; exact h2.q_mem)).trans ho4 (fun i _ hi => by rw [hi]; exact h2.foot _ (by simp [diskBlocks]))
set_option maxRecDepth 100000 in
set_option maxHeartbeats 1000000 in
theorem create_b {w : World} {S : Nat → Prop} {q : Nat} {d : Dk} (h : DiskAt w S q d) (nm : ByteArray) (hs : nm.size ≤ maxLen) :
    Calls Tryz.prog 134 #[.pointer (some ⟨q, 0, none⟩), .string nm] w fun e w' => OpIs w S q (d.create nm.data.toList) e w' := by
  obtain ⟨mb, fv, L, h⟩ := h
  have c0 : w.cell? ⟨q, 0, none⟩ = some (.map (some mb)) := cell_of h.head rfl
  go_enter Tryz.func134, Tryz.ntmps134
  go_wp2_with fail
  refine (asked_b h nm hs).mono ?_
  rintro e w' ⟨rfl, rfl⟩
  cases hn : nameOk nm.data.toList with
  | false =>
    have HO : Hid (OpIs w' S q (d.create nm.data.toList) (.returned (.int .i64 2)) w') := Lib.hid (by
      rw [show d.create nm.data.toList = (2, d) by simp [Dk.create, hn]]
      exact OpIs.same h 2)
    rw [show askE nm.data.toList = 2 by simp [askE, hn]]
    clear h hn
    go_wp2_with fail
    go_ret
    exact HO.out
  | true =>
    rw [show askE nm.data.toList = 0 by simp [askE, hn]]
    cases ha : d.at nm.data.toList with
    | some f =>
      obtain ⟨A, x, B, hL, rfl, hxn⟩ := h.at_some ha
      have hl := h.lookup_some (x := x) (by rw [hL]; simp) hs hxn
      have HO : Hid (OpIs w' S q (d.create nm.data.toList) (.returned (.int .i64 170)) w') := Lib.hid (by
        rw [show d.create nm.data.toList = (170, d) by simp [Dk.create, hn, ha]]
        exact OpIs.same h 170)
      clear h hn ha hL hxn
      go_wp2_with fail
      go_ret
      exact HO.out
    | none =>
      have hne := h.at_none ha
      have hl := h.lookup_none hs hne
      obtain ⟨D, hown, hsz, hd⟩ := h.look
      have hlen : (Builtin.len_ #[118] 3 #[.map (some mb)]).run Tryz.prog w' = .ok (.int .i64 (L.length : Int)) w' := by
        have := hown.len (t := 118) Tryz.underlying118 3
        rw [hsz] at this
        exact this
      have hfl : d.files.length = L.length := by rw [← h.files, List.length_map]
      obtain ⟨n, hln⟩ : ∃ n, L.length = n := ⟨_, rfl⟩
      rw [hln] at hlen hfl
      have HC : Hid (nameOk nm.data.toList = true ∧ d.at nm.data.toList = none ∧ d.files.length = n) := Lib.hid ⟨hn, ha, hfl⟩
      have HNE := Lib.hid hne
      have H := Lib.hid h
      have HD := Lib.hid hd
      clear h hn ha hne hfl hd hsz hown
      by_cases hf : 4096 ≤ n
      · have hb : decide ((4096 : Int) ≤ (n : Int)) = true := by simp; omega
        have HO : Hid (OpIs w' S q (d.create nm.data.toList) (.returned (.int .i64 6)) w') := Lib.hid (by
          rw [show d.create nm.data.toList = (6, d) by simp [Dk.create, HC.out.1, HC.out.2.1, HC.out.2.2, hf]]
          exact OpIs.same H.out 6)
        go_wp2_with fail
        go_ret
        exact HO.out
      · have hb : decide ((4096 : Int) ≤ (n : Int)) = false := by simp; omega
        go_wp2_with fail
        refine (step_b H.out).mono ?_
        rintro e w1 ⟨kd, kp, fv', rfl, hkp, h1, ho1⟩
        obtain ⟨er, her⟩ : ∃ er, d.fate.1 = er := ⟨_, rfl⟩
        rw [her]
        have H1 := Lib.hid h1
        have HO1 := Lib.hid ho1
        have HE := Lib.hid her
        clear h1 ho1 hkp her hl hlen hb H HD c0
        go_upto_region 10 with fail
        obtain ⟨w2, hw2⟩ : ∃ w2 : World, w2 = w1.alloc (.cells #[.int .i64 kd, .int .i64 kp] 98) := ⟨_, rfl⟩
        obtain ⟨r, hr⟩ : ∃ r, r = w1.heap.size := ⟨_, rfl⟩
        have h2 : DiskIs w2 S q mb fv' L d.next := by rw [hw2]; exact H1.out.below ((Below.refl _ _).alloc (Nat.le_refl _) _)
        have ho2 : Only (fun k => k = q) w' w2 := by rw [hw2]; exact HO1.out.trans (only_alloc (fun k => k = q) _ _) (fun _ _ h => h)
        rw [← hw2, ← hr]
        clear hw2 hr H1 HO1
        have c0 : w2.cell? ⟨q, 0, none⟩ = some (.map (some mb)) := cell_of h2.head rfl
        have H2 := Lib.hid h2
        have HO2 := Lib.hid ho2
        clear h2 ho2
        by_cases h0 : er = 0
        · subst h0
          obtain ⟨D2, hown, hsz, hd⟩ := H2.out.look
          obtain ⟨w3, hw3⟩ : ∃ w3 : World, w3 = w2.alloc (.cells #[.slice none 0 0, .int .i64 0, .bool true, .bool false] 179) := ⟨_, rfl⟩
          have HOWN : Hid (w3.ownsMap Tryz.prog 9 ptrElem mb n D2) := Lib.hid (by rw [hw3, ← hln]; exact hown.alloc _)
          have HW3 := Lib.hid hw3
          have HD2 := Lib.hid hd
          clear hown hsz hd
          have hkey : keyOf Tryz.prog 9 (.string nm) = some (.string nm.data.toList) := WideMaps.keyOf_string_mk (P := Tryz.prog) Tryz.underlying9 hs
          have HKEY := Lib.hid hkey
          clear hkey
          go_wp2_with (at_mapUpdate; rw [← hw3]; refine wpList_mapUpdate_own _ rfl _ _ _ 118 rfl 9 175 (string_keyed Tryz.underlying9) Tryz.underlying118 ptrElem mb n D2 rfl HOWN.out (by unfold maxLen; omega) _ _ _ rfl rfl HKEY.out _ [] (ptrElem_mk _) ?_; intro w4 hown4 hg4; have HOWN4 := Lib.hid hown4; have HG4 := Lib.hid hg4; clear hown4 hg4)
          go_ret
          have := set_new HO2.out H2.out HD2.out HW3.out HG4.out HOWN4.out HNE.out HC.out.1 (by show d.files.length < 4096; rw [HC.out.2.2]; omega) (d := d) rfl
          simpa [Dk.create, HC.out.1, HC.out.2.1, HC.out.2.2, hf, HE.out, newF] using this
        · have hb0 : (er != 0) = true := by simpa using h0
          have HO : Hid (OpIs w' S q (d.create nm.data.toList) (.returned (.int .i64 er)) w2) := Lib.hid (by
            rw [show d.create nm.data.toList = (er, d.next) by simp [Dk.create, HC.out.1, HC.out.2.1, HC.out.2.2, hf, HE.out, h0]]
            exact OpIs.next HO2.out H2.out er)
          clear h0
          go_wp2_with fail
          go_ret
          exact HO.out
end Go.Proofs.YtlgcoaeddeiegaaGreat
/- Disk: a copy of bytes; Read. -/
namespace Go.Proofs.YtlgcoaeddeiegaaGreat
open Go Go.Maps Go.RowKit

theorem emptyRowU (w : World) (T : TypeId) (size : Nat) : hasRow (w.alloc (.cells #[] T)) w.heap.size T size (.slice (some ⟨w.heap.size, 0, none⟩) 0 0) 0 [] :=
  ⟨by simp, .inr ⟨_, 0, #[], (0, 0), rfl, Nat.le_refl _, heap_alloc_new _ _, Nat.le_refl _, Nat.zero_le _, by simp, fun j hj => by simp at hj, by simp⟩⟩
/-- v holds the bytes l, in a block that is new -/
def NewBytes (w w' : World) (v : Value) (l : List UInt8) : Prop := bytesAt w' v l ∧ (∀ k, v.ownBlock = some k → w.heap.size ≤ k) ∧ Below w.heap.size w w'
set_option maxRecDepth 100000 in
set_option maxHeartbeats 400000 in
theorem clone_b {w : World} {oa : Option Addr} {n c : Nat} {l : List UInt8} (hn : l.length = n) (h : rowAt w 5 1 (.slice oa n c) n (byteCells l)) (hm : n ≤ 1000000000) :
    Calls Tryz.prog 83 #[.slice oa n c] w fun e w' => ∃ v, e = .returned v ∧ NewBytes w w' v l := by
  cases oa with
  | none =>
    rcases h.2 with ⟨hv, h0⟩ | ⟨g, off, c, cur, fr, hv, _⟩
    · simp only [Value.slice.injEq] at hv
      obtain ⟨-, -, rfl⟩ := hv
      subst h0
      have hl : l = [] := List.eq_nil_of_length_eq_zero hn
      subst hl
      have hnil : ∀ W : World, (binOp .eql 39 (.slice none 0 0) (.slice none 0 0)).run Tryz.prog W = .ok (.bool true) W := fun W => by kernel_rfl
      have H := Lib.hid h
      clear h
      go_enter Tryz.func83, Tryz.ntmps83
      go_wp2_with fail
      go_ret
      exact ⟨_, rfl, H.out, fun k hk => by simp [Value.ownBlock] at hk, Below.refl _ _⟩
    · simp at hv
  | some ad =>
    have hnil : ∀ W : World, (binOp .eql 39 (.slice (some ad) n c) (.slice none 0 0)).run Tryz.prog W = .ok (.bool false) W := fun W => by kernel_rfl
    have HS : Hid (Src Tryz.prog (w.alloc (.cells #[] 5)) 1 39 (.slice (some ad) n c) n (byteCells l)) := Lib.hid (Src.of_row Tryz.underlying39 (h.kept (fun k hk => Below.heap_alloc _ _ k (h.lt k hk))) (byteCells_one _))
    clear h
    go_enter Tryz.func83, Tryz.ntmps83
    go_wp2_with (at_builtin; refine wpList_append_at _ rfl (.tmp 5) (.tmp 6) 39 39 rfl 5 (.int .u8 0) 1 1 Tryz.underlying39 info_u8 rfl _ 0 _ rfl (rowAt.of_row (emptyRowU w _ _)) _ n _ rfl HS.out (by unfold maxLen; omega) (by omega) ?_; intro v' w3 hr hg hown _; have HR := Lib.hid hr; have HG : Hid ((w.alloc (.cells #[] 5)).grownBy w3 (some w.heap.size)) := Lib.hid hg; have HOWN : Hid (v'.ownBlock = some w.heap.size ∨ v'.ownBlock = some (w.alloc (.cells #[] 5)).heap.size) := Lib.hid hown; clear hr hg hown)
    go_ret
    refine ⟨v', rfl, ?_, fun k hk => ?_, ?_⟩
    · have := HR.out
      rw [Nat.zero_add, List.nil_append, ← hn] at this
      exact this
    · have h1 := HOWN.out
      rw [hk] at h1
      simp at h1
      omega
    · exact ((Below.refl _ _).alloc (Nat.le_refl _) _).grown HG.out (by simp) (fun k hk => by simp at hk; omega)
theorem run_part (oa : Option Addr) (N c α E : Nat) (h1 : α ≤ E) (h2 : E ≤ c) (W : World) : (Instr.slice 39 (.slice oa N c) (some (.int .i64 (α : Int))) (some (.int .i64 (E : Int))) none).run Tryz.prog W = .ok (.slice (if c = α then oa else oa.map (·.add (α * 1))) (E - α) (c - α)) W := by
  have hs : (sizeOf 5).run Tryz.prog W = .ok 1 W := by kernel_rfl
  have he : Tryz.prog.elem 39 = 5 := by kernel_rfl
  rw [run_slice_lh (P := Tryz.prog) (w := W) 39 oa N c (by rw [he]; exact Tryz.underlying39) .i64 .i64 α E (by omega) (by omega) (by omega), he, hs]
  simp [Result.andThen, sliced]
theorem wrap_nat (x : Int) (n : Nat) (h : x = (n : Int)) (hn : n ≤ 1000000000) : IntKind.i64.wrap x = (n : Int) := by
  subst h
  simp [IntKind.wrap, IntKind.signed, IntKind.bits]
  omega
/-- what is read of a disk -/
def Dk.read (d : Dk) (s : List UInt8) (a n : Int) : List UInt8 × Int :=
  if nameOk s = false then ([], 2)
  else match d.find s with
    | none => ([], 171)
    | some f => if a < 0 ∨ (f.bytes.length : Int) < a ∨ n < 0 then ([], 4) else ((f.bytes.drop a.toNat).take (min n.toNat (f.bytes.length - a.toNat)), 0)
def ReadIs (w : World) (r : List UInt8 × Int) (e : Ending) (w' : World) : Prop := ∃ v, e = .returned (.tuple #[v, .int .i64 r.2]) ∧ NewBytes w w' v r.1
theorem ReadIs.none (w : World) (n : Int) : ReadIs w ([], n) (.returned (.tuple #[.slice none 0 0, .int .i64 n])) w :=
  ⟨_, rfl, ⟨by simp [byteCells], .inl ⟨rfl, rfl⟩⟩, fun k hk => by simp [Value.ownBlock] at hk, Below.refl _ _⟩
set_option maxRecDepth 100000 in
set_option maxHeartbeats 1000000 in
theorem read_b {w : World} {S : Nat → Prop} {q : Nat} {d : Dk} (h : DiskAt w S q d) (nm : ByteArray) (hs : nm.size ≤ maxLen) (a n : Int) (ha : a ≤ 9223372036854775807) (hn63 : n ≤ 9223372036854775807) :
    Calls Tryz.prog 21 #[.pointer (some ⟨q, 0, none⟩), .string nm, .int .i64 a, .int .i64 n] w fun e w' => ReadIs w (d.read nm.data.toList a n) e w' := by
  obtain ⟨mb, fv, L, h⟩ := h
  go_enter Tryz.func21, Tryz.ntmps21
  go_wp2_with fail
  refine (find_b h nm hs).mono ?_
  rintro e w' ⟨hF, rfl⟩
  rcases hF with ⟨hn, rfl⟩ | ⟨hn, hf, rfl⟩ | ⟨hn, A, x, B, rfl, hxn, hxt, hf, rfl⟩
  · have HO : Hid (ReadIs w' (d.read nm.data.toList a n) (.returned (.tuple #[.slice none 0 0, .int .i64 2])) w') := Lib.hid (by
      rw [show d.read nm.data.toList a n = ([], 2) by simp [Dk.read, hn]]
      exact ReadIs.none w' 2)
    clear h hn
    go_wp2_with fail
    go_ret2
    exact HO.out
  · have HO : Hid (ReadIs w' (d.read nm.data.toList a n) (.returned (.tuple #[.slice none 0 0, .int .i64 171])) w') := Lib.hid (by
      rw [show d.read nm.data.toList a n = ([], 171) by simp [Dk.read, hn, hf]]
      exact ReadIs.none w' 171)
    clear h hn hf
    go_wp2_with fail
    go_ret2
    exact HO.out
  · have hx := h.each x (by simp)
    obtain ⟨oa, c, hbv, hnc⟩ := hx.row.shape
    obtain ⟨N, hnn⟩ : ∃ N, x.f.bytes.length = N := ⟨_, rfl⟩
    have hsz : N ≤ 16777216 := by rw [← hnn]; exact hx.size
    have hxc := hx.cells
    have hxr := hx.row
    rw [hbv, hnn] at hxc hxr
    rw [hnn] at hnc
    have k0 : w'.cell? ⟨x.blk, 0, none⟩ = some (.slice oa N c) := cell_of hxc rfl
    by_cases hbad : a < 0 ∨ (N : Int) < a ∨ n < 0
    · have HO : Hid (ReadIs w' (d.read nm.data.toList a n) (.returned (.tuple #[.slice none 0 0, .int .i64 4])) w') := Lib.hid (by
        rw [show d.read nm.data.toList a n = ([], 4) by simp [Dk.read, hn, hf, hnn, hbad]]
        exact ReadIs.none w' 4)
      clear h hn hf hx hxc hxr hbv
      by_cases e1 : a < 0
      · go_wp2_with fail
        go_ret2
        exact HO.out
      · by_cases e2 : (N : Int) < a
        · go_wp2_with fail
          go_ret2
          exact HO.out
        · have e3 : n < 0 := by omega
          go_wp2_with fail
          go_ret2
          exact HO.out
    · obtain ⟨α, rfl⟩ : ∃ α : Nat, a = (α : Int) := ⟨a.toNat, by omega⟩
      obtain ⟨ν, rfl⟩ : ∃ ν : Nat, n = (ν : Int) := ⟨n.toNat, by omega⟩
      have hαN : α ≤ N := by omega
      have HRD : Hid (d.read nm.data.toList α ν = ((x.f.bytes.drop α).take (min ν (N - α)), 0)) := Lib.hid (by simp [Dk.read, hn, hf, hnn]; omega)
      have d1 : decide ((α : Int) < 0) = false := by simp
      have d2 : decide ((N : Int) < (α : Int)) = false := by simp; omega
      have d3 : decide ((ν : Int) < 0) = false := by simp
      have HXR := Lib.hid hxr
      have HNN := Lib.hid hnn
      clear h hn hf hx hxc hxr hbv hnn hbad
      go_upto_region 6 with fail
      obtain ⟨M, hM⟩ : ∃ M, M = N - α := ⟨_, rfl⟩
      have hw1 : IntKind.i64.wrap ((N : Int) - (α : Int)) = (M : Int) := wrap_nat _ _ (by omega) (by omega)
      obtain ⟨K, hK⟩ : ∃ K, K = min ν M := ⟨_, rfl⟩
      obtain ⟨E, hE⟩ : ∃ E, E = α + K := ⟨_, rfl⟩
      have hw2 : IntKind.i64.wrap ((α : Int) + (K : Int)) = (E : Int) := wrap_nat _ _ (by omega) (by omega)
      obtain ⟨oa1, hoa1⟩ : ∃ o : Option Addr, o = if c = α then oa else oa.map (·.add (α * 1)) := ⟨_, rfl⟩
      obtain ⟨c1, hc1⟩ : ∃ c1, c1 = c - α := ⟨_, rfl⟩
      have hsl : ∀ W : World, (Instr.slice 39 (.slice oa N c) (some (.int .i64 (α : Int))) (some (.int .i64 (E : Int))) none).run Tryz.prog W = .ok (.slice oa1 K c1) W := fun W => by
        rw [run_part oa N c α E (by omega) (by omega) W, hoa1, hc1, show E - α = K by omega]
      have hrow : rowAt w' 5 1 (.slice oa1 K c1) K (byteCells ((x.f.bytes.drop α).take K)) := by
        have h1 := HXR.out.sub α E c (by omega) (by omega) (by omega) (Nat.le_refl _)
        rw [show E - α = K by omega, ← hoa1, ← hc1] at h1
        have e : ((byteCells x.f.bytes).drop (α * 1)).take (K * 1) = byteCells ((x.f.bytes.drop α).take K) := by simp [byteCells, List.map_drop, List.map_take]
        rw [e] at h1
        exact h1
      have hKl : ((x.f.bytes.drop α).take K).length = K := by rw [List.length_take, List.length_drop, HNN.out]; omega
      have HROW := Lib.hid hrow
      have HKL := Lib.hid hKl
      have HRK : Hid (d.read nm.data.toList α ν = ((x.f.bytes.drop α).take K, 0)) := Lib.hid (by rw [HRD.out, ← hM, hK])
      have hKb : K ≤ 1000000000 := by omega
      have hcl : Calls Tryz.prog 83 #[.slice oa1 K c1] w'.drew fun e w'' => ∃ v, e = .returned v ∧ NewBytes w' w'' v ((x.f.bytes.drop α).take K) := by
        refine (clone_b (w := w'.drew) hKl hrow hKb).mono ?_
        rintro e w'' ⟨v, rfl, h1, h2, h3⟩
        exact ⟨v, rfl, h1, h2, ⟨h3.os, h3.tape, h3.output, h3.size, h3.block⟩⟩
      have HCL := Lib.hid hcl
      clear hoa1 hc1 hrow hKl hE hcl
      by_cases hk : M < ν
      · have hk1 : (K : Int) = (M : Int) := by omega
        rw [hk1] at hw2
        clear hM hK hk1
        go_region_law (go_simp; go_at_call 83; refine HCL.out.mono ?_; rintro e w2 ⟨v, rfl, hnb⟩; have HNB := Lib.hid hnb; clear hnb)
        all_goals go_wp2_with fail
        all_goals go_ret2
        all_goals exact ⟨v, by rw [HRK.out]; rfl, by rw [HRK.out]; exact HNB.out⟩
      · have hk1 : (K : Int) = (ν : Int) := by omega
        rw [hk1] at hw2
        clear hM hK hk1
        go_region_law (go_simp; go_at_call 83; refine HCL.out.mono ?_; rintro e w2 ⟨v, rfl, hnb⟩; have HNB := Lib.hid hnb; clear hnb)
        all_goals go_wp2_with fail
        all_goals go_ret2
        all_goals exact ⟨v, by rw [HRK.out]; rfl, by rw [HRK.out]; exact HNB.out⟩
end Go.Proofs.YtlgcoaeddeiegaaGreat
/- record: parts of what is left; clones; records that are made. -/
namespace Go.Proofs.YtlgcoaeddeiegaaGreat
open Go Go.RowKit
attribute [local go_sem] Oper.semAt_some

set_option maxRecDepth 100000 in
set_option maxHeartbeats 400000 in
theorem cloneR_b {w : World} {oa : Option Addr} {n c : Nat} {l : List UInt8} (hn : l.length = n) (h : readAt w 1 (.slice oa n c) n (byteCells l)) (hm : n ≤ 1000000000) :
    Calls Tryz.prog 83 #[.slice oa n c] w fun e w' => ∃ v, e = .returned v ∧ NewB w w' v l := by
  cases oa with
  | none =>
    rcases h.2 with ⟨h0, oa, cap, hv, hc⟩ | ⟨g, off, c, hv, _⟩
    · simp only [Value.slice.injEq] at hv
      obtain ⟨rfl, -, rfl⟩ := hv
      subst h0
      have hc0 := hc rfl
      subst hc0
      have hl : l = [] := List.eq_nil_of_length_eq_zero hn
      subst hl
      have hnil : ∀ W : World, (binOp .eql 39 (.slice none 0 0) (.slice none 0 0)).run Tryz.prog W = .ok (.bool true) W := fun W => by kernel_rfl
      clear h hc
      go_enter Tryz.func83, Tryz.ntmps83
      go_wp2_with fail
      go_ret
      exact ⟨_, rfl, NewB.nil (Below.refl _ _)⟩
    · simp at hv
  | some ad =>
    have hnil : ∀ W : World, (binOp .eql 39 (.slice (some ad) n c) (.slice none 0 0)).run Tryz.prog W = .ok (.bool false) W := fun W => by kernel_rfl
    have hb1 : Below w.heap.size w (w.alloc (.cells #[] 5)) := (Below.refl _ _).alloc (Nat.le_refl _) _
    have HS := Lib.hid (h.kept (fun k hk _ _ => hb1.block k hk))
    have HN : Hid (NewB w (w.alloc (.cells #[] 5)) (.slice (some ⟨w.heap.size, 0, none⟩) 0 0) []) := Lib.hid ⟨rowAt.of_row (emptyRowU w _ _), fun k hk => by simp only [Value.ownBlock, Option.some.injEq] at hk; omega, hb1⟩
    have HL := Lib.hid hn
    clear h hb1 hn
    go_enter Tryz.func83, Tryz.ntmps83
    go_wp2_with (at_builtin; refine wpList_putR rfl (.tmp 5) (.tmp 6) rfl HN.out HL.out HS.out (by omega) rfl rfl ?_; intro oa3 c3 w3 HR)
    go_ret
    exact ⟨_, rfl, by simpa using HR.out.new⟩
/-- what is left of a batch's bytes lies in a box -/
structure RestI (w W : World) (b m : Nat) (l : List UInt8) : Prop where
  box : ∃ o c, W.heap[b]? = some (.cells #[.slice o m c] 39 (0, 0)) ∧ readAt w 1 (.slice o m c) m (byteCells l)
  len : l.length = m
theorem RestI.later {w W W' : World} {b m : Nat} {l : List UInt8} (h : RestI w W b m l) (hb : Below W.heap.size W W') : RestI w W' b m l := by
  obtain ⟨o, c, h1, h2⟩ := h.box
  exact ⟨⟨o, c, (hb.block b (Array.getElem?_eq_some_iff.1 h1).1).trans h1, h2⟩, h.len⟩
theorem RestI.only {w W W' : World} {b m : Nat} {l : List UInt8} {X : Nat → Prop} (h : RestI w W b m l) (ho : Only X W W') (hX : ¬ X b) : RestI w W' b m l := by
  obtain ⟨o, c, h1, h2⟩ := h.box
  exact ⟨⟨o, c, (ho.block b (Array.getElem?_eq_some_iff.1 h1).1 hX).trans h1, h2⟩, h.len⟩
def PartE (w W : World) (b n m : Nat) (a t : List UInt8) (e : Ending) (w' : World) : Prop :=
  ∃ o1 c1 o2 c2, e = .returned (.slice o1 n c1) ∧ readAt w 1 (.slice o1 n c1) n (byteCells a) ∧ w' = W.setCell ⟨b, 0, none⟩ (.slice o2 m c2) ∧ RestI w w' b m t
/-- the first part is taken off -/
theorem RestI.part {w W : World} {b n m : Nat} {a t : List UInt8} (h : RestI w W b (n + m) (a ++ t)) (ha : a.length = n) (hb : Below w.heap.size w W) :
    Calls Tryz.prog 192 #[.pointer (some ⟨b, 0, none⟩), .int .i64 (n : Int)] W fun e w' => PartE w W b n m a t e w' := by
  obtain ⟨o, c, h1, h2⟩ := h.box
  refine (part_b h1 h.len (h2.kept (fun k hk _ _ => hb.block k hk)) (Nat.le_add_right n m)).mono ?_
  rintro e w' ⟨o1, c1, o2, c2, he, hp, hw⟩
  have h3 := hp w h2
  have e1 : (a ++ t).take n = a := by rw [← ha]; simp
  have e2 : (a ++ t).drop n = t := by rw [← ha]; simp
  have e3 : n + m - n = m := by omega
  rw [e1, e2, e3] at h3
  rw [e3] at hw
  refine ⟨o1, c1, o2, c2, he, h3.1, hw, ⟨o2, c2, by rw [hw]; exact heap_setCell_here _ h1, h3.2⟩, ?_⟩
  have := h.len
  rw [List.length_append, ha] at this
  omega
theorem getLe_b {W : World} {o : Option Addr} {n c x : Nat} (h : readAt W 1 (.slice o n c) n (byteCells (leT x n))) (hx : x < 256 ^ n) (hn : n ≤ 8) :
    Calls Tryz.prog 191 #[.slice o n c, .int .i64 (n : Int)] W fun e w' => e = .returned (.int .u64 (x : Int)) ∧ w' = W := by
  have hl := leT_len n x
  have := get_b hl h (Nat.le_refl n) hn
  rw [List.take_of_length_le (by rw [hl]; exact Nat.le_refl _), getT_leT n x hx] at this
  exact this
/-- records in memory that is new since w0 -/
structure NewR (w0 W : World) (v : Value) (xs : List RcV) : Prop where
  row : rowAt W 150 3 v xs.length (recsCells xs)
  own : ∀ k, v.ownBlock = some k → w0.heap.size ≤ k
  each : ∀ x ∈ xs, rowAt W 5 1 x.kv x.r.key.length (byteCells x.r.key) ∧ rowAt W 5 1 x.vv x.r.val.length (byteCells x.r.val) ∧ (∀ k, x.kv.ownBlock = some k → w0.heap.size ≤ k) ∧ (∀ k, x.vv.ownBlock = some k → w0.heap.size ≤ k)
  below : Below w0.heap.size w0 W
theorem NewR.nil {w0 W : World} (h : Below w0.heap.size w0 W) : NewR w0 W (.slice none 0 0) [] := ⟨⟨rfl, .inl ⟨rfl, rfl⟩⟩, fun k hk => by simp [Value.ownBlock] at hk, fun x hx => (by cases hx), h⟩
theorem NewR.is {w0 W : World} {v : Value} {xs : List RcV} (h : NewR w0 W v xs) : RecsIs W v xs := ⟨h.row.read, fun x hx => ⟨(h.each x hx).1.read, (h.each x hx).2.1.read⟩⟩
theorem NewR.kept {w0 W W' : World} {v : Value} {xs : List RcV} (h : NewR w0 W v xs) (hb : Below W.heap.size W W') : NewR w0 W' v xs :=
  ⟨h.row.kept (fun k hk => hb.block k (h.row.lt k hk)), h.own, fun x hx => by
    obtain ⟨h1, h2, h3, h4⟩ := h.each x hx
    exact ⟨h1.kept (fun k hk => hb.block k (h1.lt k hk)), h2.kept (fun k hk => hb.block k (h2.lt k hk)), h3, h4⟩, h.below.trans (hb.mono h.below.size)⟩
/-- blocks of another type are apart -/
theorem rowAt.types {W : World} {T T' : TypeId} {s s' n n' : Nat} {v v' : Value} {xs xs' : List Value} (h : rowAt W T s v n xs) (h' : rowAt W T' s' v' n' xs') (hT : T ≠ T') {k : Nat} (hk : v.ownBlock = some k) : v'.ownBlock ≠ some k := fun hk' => by
  rcases h.2 with ⟨rfl, _⟩ | ⟨g, off, cap, cur, fr, rfl, hg, _⟩
  · simp [Value.ownBlock] at hk
  · rcases h'.2 with ⟨rfl, _⟩ | ⟨g', off', cap', cur', fr', rfl, hg', _⟩
    · simp [Value.ownBlock] at hk'
    · simp only [Value.ownBlock, Option.some.injEq] at hk hk'
      subst hk
      subst hk'
      rw [hg] at hg'
      simp only [Option.some.injEq, Obj.cells.injEq] at hg'
      exact hT hg'.2.1
/-- a block of another type is apart -/
theorem rowAt.notB {W : World} {T T' : TypeId} {s n b : Nat} {v : Value} {xs : List Value} {cs : Array Value} {fr : Nat × Nat} (h : rowAt W T s v n xs) (hb : W.heap[b]? = some (.cells cs T' fr)) (hT : T ≠ T') : v.ownBlock ≠ some b := fun hk => by
  rcases h.2 with ⟨rfl, _⟩ | ⟨g, off, cap, cur, fr2, rfl, hg, _⟩
  · simp [Value.ownBlock] at hk
  · simp only [Value.ownBlock, Option.some.injEq] at hk
    subst hk
    rw [hg] at hb
    simp only [Option.some.injEq, Obj.cells.injEq] at hb
    exact hT hb.2.1
theorem NewR.only {w0 W W' : World} {v : Value} {xs : List RcV} {X : Nat → Prop} (h : NewR w0 W v xs) (ho : Only X W W') (hb : Below w0.heap.size w0 W') (hX : ∀ k, X k → v.ownBlock ≠ some k ∧ ∀ x ∈ xs, x.kv.ownBlock ≠ some k ∧ x.vv.ownBlock ≠ some k) : NewR w0 W' v xs :=
  ⟨h.row.kept (fun k hk => ho.block k (h.row.lt k hk) (fun hx => (hX k hx).1 hk)), h.own, fun x hx => by
    obtain ⟨h1, h2, h3, h4⟩ := h.each x hx
    exact ⟨h1.kept (fun k hk => ho.block k (h1.lt k hk) (fun hx' => ((hX k hx').2 x hx).1 hk)), h2.kept (fun k hk => ho.block k (h2.lt k hk) (fun hx' => ((hX k hx').2 x hx).2 hk)), h3, h4⟩, hb⟩
/-- a block that holds neither records nor bytes -/
theorem NewR.apart {w0 W : World} {v : Value} {xs : List RcV} {b : Nat} {T : TypeId} {cs : Array Value} {fr : Nat × Nat} (h : NewR w0 W v xs) (hb : W.heap[b]? = some (.cells cs T fr)) (h1 : 150 ≠ T) (h2 : 5 ≠ T) : v.ownBlock ≠ some b ∧ ∀ x ∈ xs, x.kv.ownBlock ≠ some b ∧ x.vv.ownBlock ≠ some b :=
  ⟨h.row.notB hb h1, fun x hx => ⟨(h.each x hx).1.notB hb h2, (h.each x hx).2.1.notB hb h2⟩⟩
theorem BtI.only {w W W' : World} {b2 b3 b4 : Nat} {x0 x1 x3 x4 : Value} {X : Nat → Prop} (h : BtI w W b2 b3 b4 x0 x1 x3 x4) (ho : Only X W W') (hX : ¬ X b2 ∧ ¬ X b3 ∧ ¬ X b4) (hb : Below w.heap.size w W') : BtI w W' b2 b3 b4 x0 x1 x3 x4 :=
  ⟨(ho.block _ (Array.getElem?_eq_some_iff.1 h.two).1 hX.1).trans h.two, (ho.block _ (Array.getElem?_eq_some_iff.1 h.three).1 hX.2.1).trans h.three, (ho.block _ (Array.getElem?_eq_some_iff.1 h.four).1 hX.2.2).trans h.four, h.low, h.b23, h.b24, hb⟩
theorem flat_drop {l : List Rc} {i : Nat} (h : i < l.length) : (l.drop i).flatMap Rc.bytes = l[i].bytes ++ (l.drop (i + 1)).flatMap Rc.bytes := by
  rw [List.drop_eq_getElem_cons h, List.flatMap_cons]
/-- a record more -/
theorem NewR.snoc {w0 W W1 W' : World} {v v' : Value} {xs : List RcV} {x : RcV} (h : NewR w0 W v xs) (hx : rowAt W 5 1 x.kv x.r.key.length (byteCells x.r.key) ∧ rowAt W 5 1 x.vv x.r.val.length (byteCells x.r.val) ∧ (∀ k, x.kv.ownBlock = some k → w0.heap.size ≤ k) ∧ (∀ k, x.vv.ownBlock = some k → w0.heap.size ≤ k))
    (hb : Below W.heap.size W W1) (hr : rowAt W' 150 3 v' (xs.length + 1) (recsCells xs ++ recCells x)) (hg : W1.grownBy W' v.ownBlock) (ho : v'.ownBlock = v.ownBlock ∨ v'.ownBlock = some W1.heap.size) : NewR w0 W' v' (xs ++ [x]) := by
  have h1 := h.below.trans (hb.mono h.below.size)
  have keep : ∀ {u : Value} {n : Nat} {cs : List Value}, rowAt W 5 1 u n cs → rowAt W' 5 1 u n cs := fun {u n cs} hu => hu.kept (fun k hk => by
    have hlt := hu.lt k hk
    have hne := hu.types h.row (by decide) hk
    exact (hg.block k (Nat.lt_of_lt_of_le hlt hb.size) (fun e => hne e.symm)).trans (hb.block k hlt))
  refine ⟨?_, fun k hk => ?_, fun y hy => ?_, h1.grown hg h1.size h.own⟩
  · have e : recsCells (xs ++ [x]) = recsCells xs ++ recCells x := by unfold recsCells; simp
    rw [e, List.length_append]
    exact hr
  · rcases ho with ho | ho
    · exact h.own k (by rw [← ho]; exact hk)
    · rw [ho] at hk
      simp only [Option.some.injEq] at hk
      have := h1.size
      omega
  · rcases List.mem_append.1 hy with hy | hy
    · obtain ⟨g1, g2, g3, g4⟩ := h.each y hy
      exact ⟨keep g1, keep g2, g3, g4⟩
    · rw [List.mem_singleton] at hy
      subst hy
      exact ⟨keep hx.1, keep hx.2.1, hx.2.2.1, hx.2.2.2⟩
end Go.Proofs.YtlgcoaeddeiegaaGreat
