/- The texts Ih, Ii in one. -/
import Derived.Test.YtmkjejngnahpeaaA8
import Derived.Test.YtmkjejngnahpeaaB1
import Derived.Test.YtmkjejngnahpeaaA9
/- The document's disk: SyncDir, New. -/
namespace Go.Proofs.Ytmkjejngnahpeaa
open Go Go.Maps Go.RowKit
open Go.Proofs (encStr)

def syncTo (l : List F0) (j : Nat) : List F0 := ((l.take j).filter (·.there)).map fun f => { f with named := true }
theorem syncTo_succ {l : List F0} {j : Nat} (hj : j < l.length) : syncTo l (j + 1) = syncTo l j ++ (if l[j].there = true then [{ l[j] with named := true }] else []) := by
  unfold syncTo
  rw [List.take_succ_eq_append_getElem hj, List.filter_append, List.map_append]
  congr 1
  by_cases h : l[j].there = true
  · rw [if_pos h, List.filter_cons_of_pos h]; rfl
  · rw [if_neg h, List.filter_cons_of_neg h]; rfl
theorem syncTo_len (l : List F0) (j : Nat) : (syncTo l j).length ≤ l.length := by
  unfold syncTo
  rw [List.length_map]
  exact ((List.filter_sublist).trans (List.take_sublist j l)).length_le
theorem syncTo_all (l : List F0) : syncTo l l.length = (l.filter (·.there)).map fun f => { f with named := true } := by unfold syncTo; rw [List.take_length]
theorem sync_sorted {l : List F0} (h : (l.map (·.name)).Pairwise (· < ·)) : (((l.filter (·.there)).map fun f => ({ f with named := true } : F0)).map (·.name)).Pairwise (· < ·) := by
  rw [List.map_map]
  exact h.sublist ((List.filter_sublist).map _)
set_option maxRecDepth 100000 in
set_option maxHeartbeats 2000000 in
theorem refSyncDir_b {w : World} {S : Nat → Prop} {p : Nat} {d : Dk} (h : RfAt w S p d) :
    Calls Try.prog 58 #[.pointer (some ⟨p, 0, none⟩)] w fun e w' => ROpIs w S p d.syncdir e w' := by
  obtain ⟨rv, fv, h⟩ := h
  have H := Lib.hid h
  clear h
  go_enter Try.func58, Try.ntmps58
  go_wp2_with fail
  refine (refStep_b H.out).mono ?_
  rintro e w2 ⟨kp, fv2, rfl, -, h2, ho2⟩
  obtain ⟨er, her⟩ : ∃ n, d.fate.1 = n := ⟨_, rfl⟩
  rw [her]
  by_cases h0 : er = 0
  case neg =>
    have hne : (er != 0) = true := by simpa using h0
    have HE : Hid (ROpIs w S p d.syncdir (.returned (.int .i64 er)) w2) := Lib.hid (by
      rw [show d.syncdir = (er, d.next) by
        unfold Dk.syncdir
        rw [if_pos (by rw [her]; exact h0), her]]
      exact rop_same h2 (only_p ho2 H.out.footp) rfl)
    clear h2 ho2 her
    go_wp2_with fail
    go_ret
    exact HE.out
  subst h0
  obtain ⟨oa, c, rfl, hnc⟩ := H.out.files.shape
  obtain ⟨N, hN⟩ : ∃ N, d.files.length = N := ⟨_, rfl⟩
  have hN4 : N ≤ 4096 := by rw [← hN]; exact H.out.few
  have hfl : d.next.files = d.files := rfl
  have hrow := h2.files
  rw [hfl, hN] at hrow
  have hh2 := h2.head
  rw [hN] at hh2
  have hplt : p < w2.heap.size := h2.low p h2.footp
  have HH2 := Lib.hid (And.intro hh2 (And.intro hrow hplt))
  have HN := Lib.hid hN
  have HD : Hid (∀ (w5 : World) (v' : Value), NewRow w2 w5 v' (syncTo d.files N) → ROpIs w S p d.syncdir (.returned (.int .i64 0)) (w5.setCell ⟨p, 0, none⟩ v')) := Lib.hid (fun w5 v' hr => by
    rw [← HN.out, syncTo_all] at hr
    have hde : d.syncdir = (0, { d.next with files := (d.files.filter (·.there)).map fun f => { f with named := true } }) := by
      unfold Dk.syncdir
      rw [if_neg (by rw [her]; simp)]
    have hmem : ∀ f ∈ (d.files.filter (·.there)).map fun f => ({ f with named := true } : F0), ∃ g ∈ d.files, f.name = g.name ∧ f.lasts = g.lasts ∧ f.bytes = g.bytes := fun f hf => by
      obtain ⟨g, hg, rfl⟩ := List.mem_map.1 hf
      exact ⟨g, (List.mem_filter.1 hg).1, rfl, rfl, rfl⟩
    rw [hde]
    refine rf_store h2 ho2 hr (sync_sorted h2.sorted) (fun f hf => ?_) (fun f hf => ?_) ?_ 0
    · obtain ⟨g, hg, e1, _, _⟩ := hmem f hf
      rw [e1]; exact h2.names g hg
    · obtain ⟨g, hg, _, e2, e3⟩ := hmem f hf
      rw [e2, e3]; exact h2.sizes g hg
    · rw [List.length_map]
      have := (List.filter_sublist (l := d.files) (p := (·.there))).length_le
      omega)
  clear h2 ho2 her hrow hh2 hfl hN hnc
  go_wp2_with fail
  go_loopw [5, 6] (fun sl i wr => ∃ (j m : Nat) (ol : Option Addr) (cl : Nat), j ≤ N ∧ m ≤ N ∧ sl = .slice ol m cl ∧ i = .int .i64 j ∧ Hid (NewRow w2 wr (.slice ol m cl) (syncTo d.files j))) (fun _ i wr => N - (intOf i).toNat)
  case atStart => exact ⟨0, 0, none, 0, Nat.zero_le _, Nat.zero_le _, rfl, rfl, Lib.hid (NewRow.nil (Below.refl _ _))⟩
  case round =>
    obtain ⟨j, m, ol, cl, hj, hm, rfl, rfl, HR⟩ := hrel
    have hp' := (HR.out.below.block p HH2.out.2.2).trans HH2.out.1
    have c0 : wr.cell? ⟨p, 0, none⟩ = some (.slice oa N c) := cell_of hp' rfl
    have z0 : wr.frozen? ⟨p, 0, none⟩ = false := free_of hp' _
    by_cases hlt : j < N
    · have hjf : j < d.files.length := by rw [HN.out]; exact hlt
      have hrw := HH2.out.2.1.kept (fun k hk => HR.out.below.block k (HH2.out.2.1.lt k hk))
      obtain ⟨g, off, rfl⟩ := hrw.addr (by omega)
      obtain ⟨x, hx⟩ : ∃ x, d.files[j] = x := ⟨_, rfl⟩
      obtain ⟨x0, hx0⟩ : ∃ a : ByteArray, a = ⟨x.name.toArray⟩ := ⟨_, rfl⟩
      obtain ⟨x1, hx1⟩ : ∃ a : ByteArray, a = ⟨x.bytes.toArray⟩ := ⟨_, rfl⟩
      obtain ⟨x2, hx2⟩ : ∃ a : Int, a = (x.lasts : Int) := ⟨_, rfl⟩
      obtain ⟨x3, hx3⟩ : ∃ a, a = x.there := ⟨_, rfl⟩
      obtain ⟨x4, hx4⟩ : ∃ a, a = x.named := ⟨_, rfl⟩
      have hxc : rfFile x = [.string x0, .string x1, .int .i64 x2, .bool x3, .bool x4] := by
        unfold rfFile
        rw [hx0, hx1, hx2, hx3, hx4]
      have k0 : wr.cell? ⟨g, off + j * 5, none⟩ = some (.string x0) := rf_cell (i := 0) hrw hjf (by omega) (by rw [hx, hxc]; rfl)
      have k1 : wr.cell? ⟨g, off + j * 5 + 1, none⟩ = some (.string x1) := rf_cell (i := 1) hrw hjf (by omega) (by rw [hx, hxc]; rfl)
      have k2 : wr.cell? ⟨g, off + j * 5 + 2, none⟩ = some (.int .i64 x2) := rf_cell (i := 2) hrw hjf (by omega) (by rw [hx, hxc]; rfl)
      have k3 : wr.cell? ⟨g, off + j * 5 + 3, none⟩ = some (.bool x3) := rf_cell (i := 3) hrw hjf (by omega) (by rw [hx, hxc]; rfl)
      have k4 : wr.cell? ⟨g, off + j * 5 + 4, none⟩ = some (.bool x4) := rf_cell (i := 4) hrw hjf (by omega) (by rw [hx, hxc]; rfl)
      have hss := syncTo_succ hjf
      rw [hx] at hss
      have hxc2 : rfFile { x with named := true } = [.string x0, .string x1, .int .i64 x2, .bool x3, .bool true] := by
        unfold rfFile
        rw [hx0, hx1, hx2, hx3]
      have HSS : Hid (syncTo d.files (j + 1) = syncTo d.files j ++ (if x3 = true then [{ x with named := true }] else [])) := Lib.hid (by rw [hss, hx3])
      have HXC := Lib.hid hxc2
      have hmj : m < N ∨ x3 = false := by
        cases hb : x3
        · exact .inr rfl
        · have h1 := HSS.out
          rw [hb, if_pos rfl] at h1
          have h2 := syncTo_len d.files (j + 1)
          rw [h1, List.length_append, HR.out.len, HN.out] at h2
          exact .inl (by simp only [List.length_cons, List.length_nil] at h2; omega)
      clear hss hxc hxc2 hx hx0 hx1 hx2 hx3 hx4 hrw hp'
      cases x3
      · go_wp2_with fail
        refine ⟨⟨j + 1, m, ol, cl, by omega, by omega, rfl, by simp, Lib.hid ?_⟩, by simp [intOf]; omega⟩
        rw [HSS.out]
        rw [if_neg (by simp), List.append_nil]
        exact HR.out.alloc _
      · have hmN : m < N := by
          rcases hmj with h | h
          · exact h
          · cases h
        clear hmj
        go_upto_region 9 with fail
        obtain ⟨w6, hw6⟩ : ∃ W : World, W = wr.alloc (.cells #[.string x0, .string x1, .int .i64 x2, .bool true, .bool x4] 200) := ⟨_, rfl⟩
        obtain ⟨b7, hb7⟩ : ∃ b, b = wr.heap.size := ⟨_, rfl⟩
        have h6 : w6.heap[b7]? = some (.cells #[.string x0, .string x1, .int .i64 x2, .bool true, .bool x4] 200 (0, 0)) := by rw [hw6, hb7]; exact alloc_cells _ _ _
        have hb6 : Below wr.heap.size wr w6 := by rw [hw6]; exact (Below.refl _ _).alloc (Nat.le_refl _) _
        rw [← hw6, ← hb7]
        have HB7 := Lib.hid (And.intro hb7 hb6)
        have H6 := Lib.hid h6
        have y3 : w6.cell? ⟨b7, 3, none⟩ = some (.bool true) := cell_of h6 rfl
        have y4 : w6.cell? ⟨b7, 4, none⟩ = some (.bool x4) := cell_of h6 rfl
        have f4 : w6.frozen? ⟨b7, 4, none⟩ = false := free_of h6 _
        clear hw6 hb7 h6 hb6 k0 k1 k2 k3 k4 c0 z0
        go_upto_region 11 with fail
        obtain ⟨w7, hw7⟩ : ∃ W : World, W = w6.setCell ⟨b7, 4, none⟩ (.bool true) := ⟨_, rfl⟩
        have h7 : w7.heap[b7]? = some (.cells #[.string x0, .string x1, .int .i64 x2, .bool true, .bool true] 200 (0, 0)) := by rw [hw7]; exact heap_setCell_here _ H6.out
        have hb7 : Below wr.heap.size wr w7 := by rw [hw7]; exact HB7.out.2.setCell (p := ⟨b7, 4, none⟩) (by rw [HB7.out.1]; exact Nat.le_refl _) _
        rw [← hw7]
        have HR7 := Lib.hid (HR.out.kept hb7)
        have y0 : w7.cell? ⟨b7, 0, none⟩ = some (.string x0) := cell_of h7 rfl
        have y1 : w7.cell? ⟨b7, 1, none⟩ = some (.string x1) := cell_of h7 rfl
        have y2 : w7.cell? ⟨b7, 2, none⟩ = some (.int .i64 x2) := cell_of h7 rfl
        have y3 : w7.cell? ⟨b7, 3, none⟩ = some (.bool true) := cell_of h7 rfl
        have y4 : w7.cell? ⟨b7, 4, none⟩ = some (.bool true) := cell_of h7 rfl
        clear hw7 h7 hb7 f4
        go_wp2_with (at_builtin; refine wpList_append_rf (w0 := w2) rfl (.tmp 35) (.tmp 37) rfl (HR7.out.alloc _) (l2 := [{ x with named := true }]) (k := 1) rfl (by show readAt _ 5 _ 1 (rfFile _ ++ []); rw [List.append_nil, HXC.out]; exact (rfive_row w7 _ _ _ _ _).read) (t := m + 1) rfl (by omega) rfl rfl ?_; intro oa9 c9 w9 HR9)
        refine ⟨⟨j + 1, m + 1, oa9, c9, by omega, by omega, rfl, by simp, Lib.hid ?_⟩, by simp [intOf]; omega⟩
        rw [HSS.out, if_pos rfl]
        exact HR9.out
    · obtain rfl : j = N := by omega
      go_wp2_with fail
      go_ret
      exact HD.out _ _ HR.out
end Go.Proofs.Ytmkjejngnahpeaa
/- The document's disk: Remove, New. -/
namespace Go.Proofs.Ytmkjejngnahpeaa
open Go Go.Maps Go.RowKit
open Go.Proofs (encStr)

theorem filter_at {l : List F0} {s : List UInt8} (hs : (l.map (·.name)).Pairwise (· < ·)) {i : Nat} (hi : i < l.length) (hn : l[i].name = s) : (l.filter fun f => f.name != s) = l.take i ++ l.drop (i + 1) := by
  have e : l = l.take i ++ (l[i] :: l.drop (i + 1)) := by rw [← List.drop_eq_getElem_cons hi, List.take_append_drop]
  have hs2 := hs
  rw [e, List.map_append, List.map_cons, List.pairwise_append, List.pairwise_cons] at hs2
  conv => lhs; rw [e]
  rw [List.filter_append, List.filter_cons_of_neg (by simp [hn])]
  congr 1
  · refine List.filter_eq_self.2 fun f hf => ?_
    have := hs2.2.2 f.name (List.mem_map_of_mem hf) l[i].name (by simp)
    simp only [bne_iff_ne, ne_eq]
    intro he
    rw [he, hn] at this
    exact List.lt_irrefl _ this
  · refine List.filter_eq_self.2 fun f hf => ?_
    have := hs2.2.1.1 f.name (List.mem_map_of_mem hf)
    simp only [bne_iff_ne, ne_eq]
    intro he
    rw [he, hn] at this
    exact List.lt_irrefl _ this
theorem extract_take (l : List UInt8) (k : Nat) : (⟨l.toArray⟩ : ByteArray).extract 0 k = ⟨(l.take k).toArray⟩ := by
  apply ByteArray.ext
  simp [ByteArray.data_extract]
theorem run_str_take {P : Program} {t : TypeId} (h : P.underlying t = some .string) (s : ByteArray) (k : Nat) (hk : k ≤ s.size) (W : World) : (Instr.slice t (.string s) none (some (.int .i64 (k : Int))) none).run P W = .ok (.string (s.extract 0 k)) W := by
  simp [Instr.slice, Instr.sliceBounds, Instr.sliceBound, asIntOf, run_underlying h, hk]
/-- a file is written whole: what lasts of it may come back -/
theorem RfIs.file_gone {w : World} {S : Nat → Prop} {p : Nat} {rv fv : Value} {d : Dk} (h : RfIs w S p rv fv d) {i : Nat} (hi : i < d.files.length) {g off N c : Nat} (hrv : rv = .slice (some ⟨g, off, none⟩) N c) {x : F0} (hx : d.files[i] = x) (hn : x.named = true) {x0 y1 : ByteArray} (h0 : x0 = ⟨x.name.toArray⟩) (h1 : y1 = ⟨(x.bytes.take x.lasts).toArray⟩) :
    RfIs (((((w.setCell ⟨g, off + i * 5, none⟩ (.string x0)).setCell ⟨g, off + i * 5 + 1, none⟩ (.string y1)).setCell ⟨g, off + i * 5 + 2, none⟩ (.int .i64 x.lasts)).setCell ⟨g, off + i * 5 + 3, none⟩ (.bool false)).setCell ⟨g, off + i * 5 + 4, none⟩ (.bool true)) S p rv fv { d with files := d.files.set i { x with bytes := x.bytes.take x.lasts, there := false } } := by
  have hsz := h.sizes x (by rw [← hx]; exact List.getElem_mem hi)
  have hlt : (x.bytes.take x.lasts).length = x.lasts := by rw [List.length_take]; omega
  have s1 := h.file_set (i := i) (k := 0) (v := .string x0) (f' := x) hi hrv (by omega) (by rw [hx, h0]; rfl) (by rw [hx]) hsz
  have e1 : (d.files.set i x)[i]'(by simpa using hi) = x := List.getElem_set_self _
  have s2 := s1.file_set (i := i) (k := 1) (v := .string y1) (f' := { x with bytes := x.bytes.take x.lasts }) (by simpa using hi) hrv (by omega) (by simp only [e1]; rw [h1]; rfl) (by simp only [e1]) ⟨by show x.lasts ≤ (x.bytes.take x.lasts).length; omega, by show (x.bytes.take x.lasts).length ≤ _; omega⟩
  have e2 : ((d.files.set i x).set i { x with bytes := x.bytes.take x.lasts })[i]'(by simpa using hi) = { x with bytes := x.bytes.take x.lasts } := List.getElem_set_self _
  have s3 := s2.file_set (i := i) (k := 2) (v := .int .i64 x.lasts) (f' := { x with bytes := x.bytes.take x.lasts }) (by simpa using hi) hrv (by omega) (by simp only [e2]; rfl) (by simp only [e2]) ⟨by show x.lasts ≤ (x.bytes.take x.lasts).length; omega, by show (x.bytes.take x.lasts).length ≤ _; omega⟩
  have e3 : (((d.files.set i x).set i { x with bytes := x.bytes.take x.lasts }).set i { x with bytes := x.bytes.take x.lasts })[i]'(by simpa using hi) = { x with bytes := x.bytes.take x.lasts } := List.getElem_set_self _
  have s4 := s3.file_set (i := i) (k := 3) (v := .bool false) (f' := { x with bytes := x.bytes.take x.lasts, there := false }) (by simpa using hi) hrv (by omega) (by simp only [e3]; rfl) (by simp only [e3]) ⟨by show x.lasts ≤ (x.bytes.take x.lasts).length; omega, by show (x.bytes.take x.lasts).length ≤ _; omega⟩
  have e4 : ((((d.files.set i x).set i { x with bytes := x.bytes.take x.lasts }).set i { x with bytes := x.bytes.take x.lasts }).set i { x with bytes := x.bytes.take x.lasts, there := false })[i]'(by simpa using hi) = { x with bytes := x.bytes.take x.lasts, there := false } := List.getElem_set_self _
  have s5 := s4.file_set (i := i) (k := 4) (v := .bool true) (f' := { x with bytes := x.bytes.take x.lasts, there := false }) (by simpa using hi) hrv (by omega) (by simp only [e4]; show rfFile _ = _; unfold rfFile; simp [hn]) (by simp only [e4]) ⟨by show x.lasts ≤ (x.bytes.take x.lasts).length; omega, by show (x.bytes.take x.lasts).length ≤ _; omega⟩
  simp only [List.set_set, Nat.add_zero, ← Nat.add_assoc] at s5
  exact s5
set_option maxRecDepth 100000 in
set_option maxHeartbeats 2000000 in
theorem refRemove_b {w : World} {S : Nat → Prop} {p : Nat} {d : Dk} (h : RfAt w S p d) (nm : ByteArray) (hs : nm.size ≤ maxLen) :
    Calls Try.prog 60 #[.pointer (some ⟨p, 0, none⟩), .string nm] w fun e w' => ROpIs w S p (d.remove nm.data.toList) e w' := by
  obtain ⟨rv, fv, h⟩ := h
  obtain ⟨s, hss⟩ : ∃ s, nm.data.toList = s := ⟨_, rfl⟩
  have H := Lib.hid h
  have HSS := Lib.hid hss
  clear h
  go_enter Try.func60, Try.ntmps60
  go_wp2_with fail
  refine (refFind_b H.out nm hs).mono ?_
  rintro e w' ⟨hF, hw'⟩
  obtain rfl := hw'.symm
  rw [hss] at hF
  clear hss
  rcases hF with ⟨hn, rfl⟩ | ⟨hn, hf, rfl⟩ | ⟨hn, i, hi, hxn, hxt, hf, rfl⟩
  · have HE : Hid (ROpIs w S p (d.remove s) (.returned (.int .i64 2)) w) := Lib.hid (by
      rw [show d.remove s = (2, d) by simp [Dk.remove, hn]]
      exact rop_same H.out (Only.refl _ _) rfl)
    clear hn
    go_wp2_with fail
    go_ret
    rw [HSS.out]
    exact HE.out
  · have HE : Hid (ROpIs w S p (d.remove s) (.returned (.int .i64 171)) w) := Lib.hid (by
      rw [show d.remove s = (171, d) by simp [Dk.remove, hn, hf]]
      exact rop_same H.out (Only.refl _ _) rfl)
    clear hn hf
    go_wp2_with fail
    go_ret
    rw [HSS.out]
    exact HE.out
  · have HX := Lib.hid (And.intro hn (And.intro hxn (And.intro hxt hf)))
    clear hn hxn hxt hf
    go_wp2_with fail
    refine (refStep_b H.out).mono ?_
    rintro e w2 ⟨kp, fv2, rfl, -, h2, ho2⟩
    obtain ⟨er, her⟩ : ∃ n, d.fate.1 = n := ⟨_, rfl⟩
    rw [her]
    by_cases h0 : er = 0
    case neg =>
      have hne : (er != 0) = true := by simpa using h0
      have HE : Hid (ROpIs w S p (d.remove s) (.returned (.int .i64 er)) w2) := Lib.hid (by
        rw [show d.remove s = (er, d.next) by
          unfold Dk.remove
          rw [if_neg (by rw [HX.out.1]; simp), HX.out.2.2.2]
          show (if _ then _ else _) = _
          rw [if_pos (by rw [her]; exact h0), her]]
        exact rop_same h2 (only_p ho2 H.out.footp) rfl)
      clear h2 ho2 her
      go_wp2_with fail
      go_ret
      rw [HSS.out]
      exact HE.out
    subst h0
    obtain ⟨oa, c, rfl, hnc⟩ := H.out.files.shape
    obtain ⟨N, hN⟩ : ∃ N, d.files.length = N := ⟨_, rfl⟩
    obtain ⟨x, hx⟩ : ∃ x, d.files[i] = x := ⟨_, rfl⟩
    have hN4 : N ≤ 4096 := by rw [← hN]; exact H.out.few
    have hfl : d.next.files = d.files := rfl
    have hrow := h2.files
    rw [hfl, hN] at hrow
    rw [hN] at hnc
    have hiN : i < N := by omega
    have hh2 := h2.head
    rw [hN] at hh2
    have hplt : p < w2.heap.size := h2.low p h2.footp
    obtain ⟨g, off, rfl⟩ := hrow.addr (by omega)
    have hglt : g < w2.heap.size := hrow.lt g rfl
    obtain ⟨x0, hx0⟩ : ∃ a : ByteArray, a = ⟨x.name.toArray⟩ := ⟨_, rfl⟩
    obtain ⟨x1, hx1⟩ : ∃ a : ByteArray, a = ⟨x.bytes.toArray⟩ := ⟨_, rfl⟩
    obtain ⟨la, hla⟩ : ∃ a : Nat, a = x.lasts := ⟨_, rfl⟩
    obtain ⟨x3, hx3⟩ : ∃ a, a = x.there := ⟨_, rfl⟩
    obtain ⟨x4, hx4⟩ : ∃ a, a = x.named := ⟨_, rfl⟩
    have hxc : rfFile x = [.string x0, .string x1, .int .i64 la, .bool x3, .bool x4] := by
      unfold rfFile
      rw [hx0, hx1, hla, hx3, hx4]
    have k0 : w2.cell? ⟨g, off + i * 5, none⟩ = some (.string x0) := rf_cell (i := 0) hrow hi (by omega) (by rw [hx, hxc]; rfl)
    have k1 : w2.cell? ⟨g, off + i * 5 + 1, none⟩ = some (.string x1) := rf_cell (i := 1) hrow hi (by omega) (by rw [hx, hxc]; rfl)
    have k2 : w2.cell? ⟨g, off + i * 5 + 2, none⟩ = some (.int .i64 la) := rf_cell (i := 2) hrow hi (by omega) (by rw [hx, hxc]; rfl)
    have k3 : w2.cell? ⟨g, off + i * 5 + 3, none⟩ = some (.bool x3) := rf_cell (i := 3) hrow hi (by omega) (by rw [hx, hxc]; rfl)
    have k4 : w2.cell? ⟨g, off + i * 5 + 4, none⟩ = some (.bool x4) := rf_cell (i := 4) hrow hi (by omega) (by rw [hx, hxc]; rfl)
    have c0 : w2.cell? ⟨p, 0, none⟩ = some (.slice (some ⟨g, off, none⟩) N c) := cell_of hh2 rfl
    have hsz := h2.sizes x (by rw [hfl, ← hx]; exact List.getElem_mem hi)
    have HH2 := Lib.hid (And.intro hh2 (And.intro hrow (And.intro hplt hglt)))
    have HN := Lib.hid hN
    have HX2 := Lib.hid (And.intro hx (And.intro hxc (And.intro hx1 (And.intro hla (And.intro hsz (And.intro hx0 hx4))))))
    have H2 := Lib.hid (And.intro h2 (And.intro ho2 her))
    clear hrow hh2 hx hxc hx0 hx1 hla hx3 hx4 hsz h2 ho2 her hN hfl
    go_upto_region 8 with fail
    obtain ⟨w3, hw3⟩ : ∃ W : World, W = w2.alloc (.cells #[.string x0, .string x1, .int .i64 la, .bool x3, .bool x4] 200) := ⟨_, rfl⟩
    obtain ⟨b9, hb9⟩ : ∃ b, b = w2.heap.size := ⟨_, rfl⟩
    have h3 : w3.heap[b9]? = some (.cells #[.string x0, .string x1, .int .i64 la, .bool x3, .bool x4] 200 (0, 0)) := by rw [hw3, hb9]; exact alloc_cells _ _ _
    have hb3 : Below w2.heap.size w2 w3 := by rw [hw3]; exact (Below.refl _ _).alloc (Nat.le_refl _) _
    rw [← hw3, ← hb9]
    have H3 := Lib.hid (And.intro hb9 hb3)
    have hrow3 := HH2.out.2.1.kept (fun k hk => hb3.block k (HH2.out.2.1.lt k hk))
    have c03 : w3.cell? ⟨p, 0, none⟩ = some (.slice (some ⟨g, off, none⟩) N c) := cell_of ((hb3.block p HH2.out.2.2.1).trans HH2.out.1) rfl
    have y0 : w3.cell? ⟨b9, 0, none⟩ = some (.string x0) := cell_of h3 rfl
    have y1 : w3.cell? ⟨b9, 1, none⟩ = some (.string x1) := cell_of h3 rfl
    have y2 : w3.cell? ⟨b9, 2, none⟩ = some (.int .i64 la) := cell_of h3 rfl
    have y4 : w3.cell? ⟨b9, 4, none⟩ = some (.bool x4) := cell_of h3 rfl
    have HR3 := Lib.hid hrow3
    clear hw3 hb9 h3 hb3 hrow3 k0 k1 k2 k3 k4 c0
    cases x4
    · have HD : Hid (∀ (w5 : World) (v' : Value), NewRow w3 w5 v' (d.files.take i ++ d.files.drop (i + 1)) → ROpIs w S p (d.remove s) (.returned (.int .i64 0)) (w5.setCell ⟨p, 0, none⟩ v')) := Lib.hid (fun w5 v' hr => by
        obtain ⟨h2, ho2, her⟩ := H2.out
        obtain ⟨hx, -, -, -, -, -, hx4⟩ := HX2.out
        have hfa : (d.files.filter fun f => f.name != s) = d.files.take i ++ d.files.drop (i + 1) := filter_at h2.sorted (i := i) hi HX.out.2.1
        have hde : d.remove s = (0, { d.next with files := d.files.filter fun f => f.name != s }) := by
          unfold Dk.remove
          rw [if_neg (by rw [HX.out.1]; simp), HX.out.2.2.2, hx]
          show (if _ then _ else if _ then _ else _) = _
          rw [if_neg (by rw [her]; simp), if_neg (by rw [← hx4]; simp)]
        have hsub : (d.files.filter fun f => f.name != s).Sublist d.files := List.filter_sublist
        rw [← hfa] at hr
        rw [hde]
        exact rf_store (h2.below H3.out.2) (ho2.trans (Only.of_below H3.out.2 (Nat.le_refl _) _) (fun _ _ h => h)) hr (h2.sorted.sublist (hsub.map _)) (fun f hf => h2.names f (hsub.subset hf)) (fun f hf => h2.sizes f (hsub.subset hf)) (by have := hsub.length_le; have := HN.out; omega) 0)
      have hz := add_zero_map (some (⟨g, off, none⟩ : Addr))
      have hsl1 := fun W => rtake_run (n := N) i (by omega : i ≤ c) hz W
      have hsl2 := fun W => rdrop_run (some (⟨g, off, none⟩ : Addr)) N c (i + 1) (by omega) W
      have hcast : ((i + 1 : Nat) : Int) = (i : Int) + 1 := by omega
      simp only [hcast] at hsl2
      obtain ⟨od, hod⟩ : ∃ od : Option Addr, od = if c = i + 1 then some ⟨g, off, none⟩ else (some (⟨g, off, none⟩ : Addr)).map (·.add ((i + 1) * 5)) := ⟨_, rfl⟩
      rw [← hod] at hsl2
      have HOD := Lib.hid hod
      have hp3 : p < w3.heap.size := Nat.lt_of_lt_of_le hplt H3.out.2.size
      have HP3 := Lib.hid ((H3.out.2.block p hplt).trans HH2.out.1)
      clear hod hz hcast
      go_wp2_with (at_builtin; first | (refine wpList_append_rf (w0 := w3) rfl (.tmp 53) (.tmp 59) rfl (NewRow.nil (Below.refl _ _)) (l2 := d.files.take i) (k := i) (by rw [List.length_take, HN.out]; omega) (rowAt.files_take HR3.out (by omega)) (t := i) (by omega) (by omega) rfl rfl ?_; intro oa4 c4 w4 HL1; have hp4 := (HL1.out.below.block p hp3).trans HP3.out; have c04 : w4.cell? ⟨p, 0, none⟩ = some (.slice (some ⟨g, off, none⟩) N c) := cell_of hp4 rfl; clear hp4) | (refine wpList_append_rf (w0 := w3) rfl (.tmp 62) (.tmp 69) rfl HL1.out (l2 := d.files.drop (i + 1)) (k := N - (i + 1)) (by rw [List.length_drop, HN.out]) (by rw [HOD.out]; exact rowAt.files_drop (HR3.out.kept (fun k hk => HL1.out.below.block k (HR3.out.lt k hk))) (by omega)) (t := N - 1) (by omega) (by omega) rfl rfl ?_; intro oa5 c5 w5 HL3; have hp5 := (HL3.out.below.block p hp3).trans HP3.out; have c05 : w5.cell? ⟨p, 0, none⟩ = some (.slice (some ⟨g, off, none⟩) N c) := cell_of hp5 rfl; have z05 : w5.frozen? ⟨p, 0, none⟩ = false := free_of hp5 _; clear hp5))
      go_ret
      rw [HSS.out]
      refine HD.out _ _ ?_
      have h9 := HL3.out
      simp only [List.nil_append] at h9
      exact h9
    · have HD : Hid (∀ W, W = (((((w3.setCell ⟨g, off + i * 5, none⟩ (.string x0)).setCell ⟨g, off + i * 5 + 1, none⟩ (.string (x1.extract 0 la))).setCell ⟨g, off + i * 5 + 2, none⟩ (.int .i64 la)).setCell ⟨g, off + i * 5 + 3, none⟩ (.bool false)).setCell ⟨g, off + i * 5 + 4, none⟩ (.bool true)).drew → ROpIs w S p (d.remove s) (.returned (.int .i64 0)) W) := Lib.hid (fun W hW => by
        obtain ⟨h2, ho2, her⟩ := H2.out
        obtain ⟨hx, hxc, hx1, hla, hsz, hx0, hx4⟩ := HX2.out
        have hde : d.remove s = (0, { d.next with files := d.files.set i { x with bytes := x.bytes.take x.lasts, there := false } }) := by
          unfold Dk.remove
          rw [if_neg (by rw [HX.out.1]; simp), HX.out.2.2.2, hx]
          show (if _ then _ else if _ then _ else _) = _
          rw [if_neg (by rw [her]; simp), if_pos hx4.symm]
          have ht := turn_set (l := d.files) h2.sorted (i := i) hi HX.out.2.1 (fun f => { f with bytes := f.bytes.take f.lasts, there := false })
          rw [hx] at ht
          show (0, ({ files := d.files.map _, fates := _, steps := _ } : Dk)) = _
          rw [ht]
        have h3 := (h2.below H3.out.2).file_gone (i := i) (x := x) hi rfl hx hx4.symm hx0 (y1 := x1.extract 0 la) (by rw [hx1, hla, extract_take])
        rw [← hla] at h3
        have ho3 : ∀ (W : World) (k : Nat) (v : Value), Only (fun j => j = g) W (W.setCell ⟨g, k, none⟩ v) := fun W k v => only_setCell (fun j => j = g) _ _ _ _ rfl
        have hog : Only (fun j => j = g) w3 (((((w3.setCell ⟨g, off + i * 5, none⟩ (.string x0)).setCell ⟨g, off + i * 5 + 1, none⟩ (.string (x1.extract 0 la))).setCell ⟨g, off + i * 5 + 2, none⟩ (.int .i64 la)).setCell ⟨g, off + i * 5 + 3, none⟩ (.bool false)).setCell ⟨g, off + i * 5 + 4, none⟩ (.bool true)) :=
          ((((ho3 _ _ _).trans (ho3 _ _ _) (fun _ _ h => h)).trans (ho3 _ _ _) (fun _ _ h => h)).trans (ho3 _ _ _) (fun _ _ h => h)).trans (ho3 _ _ _) (fun _ _ h => h)
        rw [hde, hW]
        refine rop_same h3.drew (only_drew ?_) (by rw [hla]; rfl)
        exact ((only_p ho2 H.out.footp).trans (Only.of_below H3.out.2 (Nat.le_refl _) S) (fun _ _ h => h)).trans (only_r (v := .slice (some ⟨g, off, none⟩) d.files.length c) (g := g) hog rfl H.out.footr) (fun _ _ h => h))
      have hle : la ≤ x1.size := by
        have := HX2.out
        rw [this.2.2.1]
        have h5 := this.2.2.2.2.1
        have h6 := this.2.2.2.1
        simp [ByteArray.size]
        omega
      have hsl : ∀ W : World, (Instr.slice 9 (.string x1) none (some (.int .i64 (la : Int))) none).run Try.prog W = .ok (.string (x1.extract 0 la)) W := run_str_take Try.underlying9 x1 la hle
      obtain ⟨yb, hyb⟩ : ∃ b, b = x1.extract 0 la := ⟨_, rfl⟩
      have HX3 : Hid (rfFile x = [.string x0, .string x1, .int .i64 la, .bool x3, .bool true]) := Lib.hid HX2.out.2.1
      have k0 : w3.cell? ⟨g, off + i * 5, none⟩ = some (.string x0) := rf_cell (i := 0) HR3.out hi (by omega) (by rw [HX2.out.1, HX3.out]; rfl)
      have k1 : w3.cell? ⟨g, off + i * 5 + 1, none⟩ = some (.string x1) := rf_cell (i := 1) HR3.out hi (by omega) (by rw [HX2.out.1, HX3.out]; rfl)
      have k2 : w3.cell? ⟨g, off + i * 5 + 2, none⟩ = some (.int .i64 la) := rf_cell (i := 2) HR3.out hi (by omega) (by rw [HX2.out.1, HX3.out]; rfl)
      have k3 : w3.cell? ⟨g, off + i * 5 + 3, none⟩ = some (.bool x3) := rf_cell (i := 3) HR3.out hi (by omega) (by rw [HX2.out.1, HX3.out]; rfl)
      have k4 : w3.cell? ⟨g, off + i * 5 + 4, none⟩ = some (.bool true) := rf_cell (i := 4) HR3.out hi (by omega) (by rw [HX2.out.1, HX3.out]; rfl)
      have z0 : w3.frozen? ⟨g, off + i * 5, none⟩ = false := HR3.out.freeAt (j := i * 5) (by omega)
      have z1 : w3.frozen? ⟨g, off + i * 5 + 1, none⟩ = false := by have := HR3.out.freeAt (j := i * 5 + 1) (by omega); rwa [← Nat.add_assoc] at this
      have z2 : w3.frozen? ⟨g, off + i * 5 + 2, none⟩ = false := by have := HR3.out.freeAt (j := i * 5 + 2) (by omega); rwa [← Nat.add_assoc] at this
      have z3 : w3.frozen? ⟨g, off + i * 5 + 3, none⟩ = false := by have := HR3.out.freeAt (j := i * 5 + 3) (by omega); rwa [← Nat.add_assoc] at this
      have z4 : w3.frozen? ⟨g, off + i * 5 + 4, none⟩ = false := by have := HR3.out.freeAt (j := i * 5 + 4) (by omega); rwa [← Nat.add_assoc] at this
      rw [← hyb] at hsl HD
      clear hyb hle
      go_wp2_with fail
      go_region
      go_wp2_with fail
      go_ret
      rw [HSS.out]
      exact HD.out _ rfl
set_option maxRecDepth 100000 in
set_option maxHeartbeats 1000000 in
theorem refNew_b {w : World} {oa : Option Addr} {n c : Nat} {fs : List (Int × Int)} (hn : fs.length = n) (h : readAt w 2 (.slice oa n c) n (fateCells fs)) (hm : n ≤ 1000000) :
    Calls Try.prog 53 #[.slice oa n c] w fun e w' => ∃ p, e = .returned (.pointer (some ⟨p, 0, none⟩)) ∧ RfAt w' (Can w.heap.size w') p ⟨[], fs, 0⟩ ∧ Below w.heap.size w w' := by
  have HR := Lib.hid h
  have HN := Lib.hid hn
  clear h hn
  go_enter Try.func53, Try.ntmps53
  go_wp2_with (at_builtin; refine wpList_append_at _ rfl (.const (.slice none 0 0)) (.tmp 3) 65 65 rfl 99 (.agg #[.int .i64 0, .int .i64 0]) 2 16 Try.underlying65 info_fate rfl _ 0 [] rfl ⟨rfl, .inl ⟨rfl, rfl⟩⟩ _ n _ rfl (Src.of_read Try.underlying65 HR.out (fateCells_one fs)) (by unfold maxLen; omega) (by omega) ?_; intro v' w3 hr hg hown _; rw [Nat.zero_add] at hr; obtain ⟨oa', c', rfl, _⟩ := hr.shape; have HRW := Lib.hid (And.intro hr (And.intro hg hown)); clear hr hg hown)
  go_ret
  obtain ⟨hr, hg0, hown0⟩ := HRW.out
  have hg : w.grownBy w3 none := hg0
  have hown : (Value.slice oa' n c').ownBlock = none ∨ (Value.slice oa' n c').ownBlock = some w.heap.size := hown0
  rw [List.nil_append] at hr
  have hb3 : Below w.heap.size w w3 := (Below.refl _ _).grown hg (Nat.le_refl _) (fun k e => by cases e)
  have hb4 : Below w3.heap.size w3 (w3.alloc (.cells #[.slice none 0 0, .slice oa' n c', .int .i64 0] 198)) := (Below.refl _ _).alloc (Nat.le_refl _) _
  refine ⟨w3.heap.size, rfl, ⟨.slice none 0 0, .slice oa' n c', ?_⟩, hb3.trans (hb4.mono hb3.size)⟩
  have hsz := hb3.size
  exact {
    head := alloc_cells _ _ _
    files := ⟨rfl, .inl ⟨rfl, rfl⟩⟩
    fates := by
      show rowAt _ _ 2 (.slice oa' n c') fs.length _
      rw [HN.out]
      exact hr.kept (fun k hk => hb4.block k (hr.lt k hk))
    footp := ⟨hsz, by simp⟩
    footr := fun k hk => by simp [Value.ownBlock] at hk
    footf := fun k hk => ⟨by
      rcases hown with h1 | h1
      · rw [hk] at h1; cases h1
      · rw [hk] at h1; simp only [Option.some.injEq] at h1; omega, by have := hr.lt k hk; simp; omega⟩
    low := fun k hk => hk.2
    sorted := List.Pairwise.nil
    names := fun f hf => by cases hf
    sizes := fun f hf => by cases hf
    few := by show (0 : Nat) ≤ 4096; omega }
end Go.Proofs.Ytmkjejngnahpeaa
