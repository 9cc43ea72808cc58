/- The texts Ih, Ii, Fd, Fe, Ff, Fg, Fh, Fi in one. -/
import Derived.Test.YtmkjejngnahpeaaV3
import Derived.Test.YtmkjejngnahpeaaV6
import Derived.StillTailTactics
/- The document's disk: SyncDir, New. -/
namespace Go.Proofs.Ytmkjejngnahpeaa
open Go Go.Maps Go.RowKit
open Go.Proofs (encStr)

def syncTo (l : List F0) (j : Nat) : List F0 := ((l.take j).filter (·.there)).map fun f => { f with named := true }
theorem syncTo_succ {l : List F0} {j : Nat} (hj : j < l.length) : syncTo l (j + 1) = syncTo l j ++ (if l[j].there = true then [{ l[j] with named := true }] else []) := by
  unfold syncTo
  rw [List.take_succ_eq_append_getElem hj, List.filter_append, List.map_append]
  congr 1
  by_cases h : l[j].there = true
  · rw [if_pos h, List.filter_cons_of_pos h]; rfl
  · rw [if_neg h, List.filter_cons_of_neg h]; rfl
theorem syncTo_len (l : List F0) (j : Nat) : (syncTo l j).length ≤ l.length := by
  unfold syncTo
  rw [List.length_map]
  exact ((List.filter_sublist).trans (List.take_sublist j l)).length_le
theorem syncTo_all (l : List F0) : syncTo l l.length = (l.filter (·.there)).map fun f => { f with named := true } := by unfold syncTo; rw [List.take_length]
theorem sync_sorted {l : List F0} (h : (l.map (·.name)).Pairwise (· < ·)) : (((l.filter (·.there)).map fun f => ({ f with named := true } : F0)).map (·.name)).Pairwise (· < ·) := by
  rw [List.map_map]
  exact h.sublist ((List.filter_sublist).map _)
set_option maxRecDepth 100000 in
set_option maxHeartbeats 2000000 in
theorem refSyncDir_b {w : World} {S : Nat → Prop} {p : Nat} {d : Dk} (h : RfAt w S p d) :
    Calls Try.prog 58 #[.pointer (some ⟨p, 0, none⟩)] w fun e w' => ROpIs w S p d.syncdir e w' := by
  obtain ⟨rv, fv, h⟩ := h
  have H := Lib.hid h
  clear h
  go_enter Try.func58, Try.ntmps58
  go_wp2_with fail
  refine (refStep_b H.out).mono ?_
  rintro e w2 ⟨kp, fv2, rfl, -, h2, ho2⟩
  obtain ⟨er, her⟩ : ∃ n, d.fate.1 = n := ⟨_, rfl⟩
  rw [her]
  by_cases h0 : er = 0
  case neg =>
    have hne : (er != 0) = true := by simpa using h0
    have HE : Hid (ROpIs w S p d.syncdir (.returned (.int .i64 er)) w2) := Lib.hid (by
      rw [show d.syncdir = (er, d.next) by
        unfold Dk.syncdir
        rw [if_pos (by rw [her]; exact h0), her]]
      exact rop_same h2 (only_p ho2 H.out.footp) rfl)
    clear h2 ho2 her
    go_wp2_with fail
    go_ret
    exact HE.out
  subst h0
  obtain ⟨oa, c, rfl, hnc⟩ := H.out.files.shape
  obtain ⟨N, hN⟩ : ∃ N, d.files.length = N := ⟨_, rfl⟩
  have hN4 : N ≤ 4096 := by rw [← hN]; exact H.out.few
  have hfl : d.next.files = d.files := rfl
  have hrow := h2.files
  rw [hfl, hN] at hrow
  have hh2 := h2.head
  rw [hN] at hh2
  have hplt : p < w2.heap.size := h2.low p h2.footp
  have HH2 := Lib.hid (And.intro hh2 (And.intro hrow hplt))
  have HN := Lib.hid hN
  have HD : Hid (∀ (w5 : World) (v' : Value), NewRow w2 w5 v' (syncTo d.files N) → ROpIs w S p d.syncdir (.returned (.int .i64 0)) (w5.setCell ⟨p, 0, none⟩ v')) := Lib.hid (fun w5 v' hr => by
    rw [← HN.out, syncTo_all] at hr
    have hde : d.syncdir = (0, { d.next with files := (d.files.filter (·.there)).map fun f => { f with named := true } }) := by
      unfold Dk.syncdir
      rw [if_neg (by rw [her]; simp)]
    have hmem : ∀ f ∈ (d.files.filter (·.there)).map fun f => ({ f with named := true } : F0), ∃ g ∈ d.files, f.name = g.name ∧ f.lasts = g.lasts ∧ f.bytes = g.bytes := fun f hf => by
      obtain ⟨g, hg, rfl⟩ := List.mem_map.1 hf
      exact ⟨g, (List.mem_filter.1 hg).1, rfl, rfl, rfl⟩
    rw [hde]
    refine rf_store h2 ho2 hr (sync_sorted h2.sorted) (fun f hf => ?_) (fun f hf => ?_) ?_ 0
    · obtain ⟨g, hg, e1, _, _⟩ := hmem f hf
      rw [e1]; exact h2.names g hg
    · obtain ⟨g, hg, _, e2, e3⟩ := hmem f hf
      rw [e2, e3]; exact h2.sizes g hg
    · rw [List.length_map]
      have := (List.filter_sublist (l := d.files) (p := (·.there))).length_le
      omega)
  clear h2 ho2 her hrow hh2 hfl hN hnc
  go_wp2_with fail
  go_loopw [5, 6] (fun sl i wr => ∃ (j m : Nat) (ol : Option Addr) (cl : Nat), j ≤ N ∧ m ≤ N ∧ sl = .slice ol m cl ∧ i = .int .i64 j ∧ Hid (NewRow w2 wr (.slice ol m cl) (syncTo d.files j))) (fun _ i wr => N - (intOf i).toNat)
  case atStart => exact ⟨0, 0, none, 0, Nat.zero_le _, Nat.zero_le _, rfl, rfl, Lib.hid (NewRow.nil (Below.refl _ _))⟩
  case round =>
    obtain ⟨j, m, ol, cl, hj, hm, rfl, rfl, HR⟩ := hrel
    have hp' := (HR.out.below.block p HH2.out.2.2).trans HH2.out.1
    have c0 : wr.cell? ⟨p, 0, none⟩ = some (.slice oa N c) := cell_of hp' rfl
    have z0 : wr.frozen? ⟨p, 0, none⟩ = false := free_of hp' _
    by_cases hlt : j < N
    · have hjf : j < d.files.length := by rw [HN.out]; exact hlt
      have hrw := HH2.out.2.1.kept (fun k hk => HR.out.below.block k (HH2.out.2.1.lt k hk))
      obtain ⟨g, off, rfl⟩ := hrw.addr (by omega)
      obtain ⟨x, hx⟩ : ∃ x, d.files[j] = x := ⟨_, rfl⟩
      obtain ⟨x0, hx0⟩ : ∃ a : ByteArray, a = ⟨x.name.toArray⟩ := ⟨_, rfl⟩
      obtain ⟨x1, hx1⟩ : ∃ a : ByteArray, a = ⟨x.bytes.toArray⟩ := ⟨_, rfl⟩
      obtain ⟨x2, hx2⟩ : ∃ a : Int, a = (x.lasts : Int) := ⟨_, rfl⟩
      obtain ⟨x3, hx3⟩ : ∃ a, a = x.there := ⟨_, rfl⟩
      obtain ⟨x4, hx4⟩ : ∃ a, a = x.named := ⟨_, rfl⟩
      have hxc : rfFile x = [.string x0, .string x1, .int .i64 x2, .bool x3, .bool x4] := by
        unfold rfFile
        rw [hx0, hx1, hx2, hx3, hx4]
      have k0 : wr.cell? ⟨g, off + j * 5, none⟩ = some (.string x0) := rf_cell (i := 0) hrw hjf (by omega) (by rw [hx, hxc]; rfl)
      have k1 : wr.cell? ⟨g, off + j * 5 + 1, none⟩ = some (.string x1) := rf_cell (i := 1) hrw hjf (by omega) (by rw [hx, hxc]; rfl)
      have k2 : wr.cell? ⟨g, off + j * 5 + 2, none⟩ = some (.int .i64 x2) := rf_cell (i := 2) hrw hjf (by omega) (by rw [hx, hxc]; rfl)
      have k3 : wr.cell? ⟨g, off + j * 5 + 3, none⟩ = some (.bool x3) := rf_cell (i := 3) hrw hjf (by omega) (by rw [hx, hxc]; rfl)
      have k4 : wr.cell? ⟨g, off + j * 5 + 4, none⟩ = some (.bool x4) := rf_cell (i := 4) hrw hjf (by omega) (by rw [hx, hxc]; rfl)
      have hss := syncTo_succ hjf
      rw [hx] at hss
      have hxc2 : rfFile { x with named := true } = [.string x0, .string x1, .int .i64 x2, .bool x3, .bool true] := by
        unfold rfFile
        rw [hx0, hx1, hx2, hx3]
      have HSS : Hid (syncTo d.files (j + 1) = syncTo d.files j ++ (if x3 = true then [{ x with named := true }] else [])) := Lib.hid (by rw [hss, hx3])
      have HXC := Lib.hid hxc2
      have hmj : m < N ∨ x3 = false := by
        cases hb : x3
        · exact .inr rfl
        · have h1 := HSS.out
          rw [hb, if_pos rfl] at h1
          have h2 := syncTo_len d.files (j + 1)
          rw [h1, List.length_append, HR.out.len, HN.out] at h2
          exact .inl (by simp only [List.length_cons, List.length_nil] at h2; omega)
      clear hss hxc hxc2 hx hx0 hx1 hx2 hx3 hx4 hrw hp'
      cases x3
      · go_wp2_with fail
        refine ⟨⟨j + 1, m, ol, cl, by omega, by omega, rfl, by simp, Lib.hid ?_⟩, by simp [intOf]; omega⟩
        rw [HSS.out]
        rw [if_neg (by simp), List.append_nil]
        exact HR.out.alloc _
      · have hmN : m < N := by
          rcases hmj with h | h
          · exact h
          · cases h
        clear hmj
        go_upto_region 9 with fail
        obtain ⟨w6, hw6⟩ : ∃ W : World, W = wr.alloc (.cells #[.string x0, .string x1, .int .i64 x2, .bool true, .bool x4] 200) := ⟨_, rfl⟩
        obtain ⟨b7, hb7⟩ : ∃ b, b = wr.heap.size := ⟨_, rfl⟩
        have h6 : w6.heap[b7]? = some (.cells #[.string x0, .string x1, .int .i64 x2, .bool true, .bool x4] 200 (0, 0)) := by rw [hw6, hb7]; exact alloc_cells _ _ _
        have hb6 : Below wr.heap.size wr w6 := by rw [hw6]; exact (Below.refl _ _).alloc (Nat.le_refl _) _
        rw [← hw6, ← hb7]
        have HB7 := Lib.hid (And.intro hb7 hb6)
        have H6 := Lib.hid h6
        have y3 : w6.cell? ⟨b7, 3, none⟩ = some (.bool true) := cell_of h6 rfl
        have y4 : w6.cell? ⟨b7, 4, none⟩ = some (.bool x4) := cell_of h6 rfl
        have f4 : w6.frozen? ⟨b7, 4, none⟩ = false := free_of h6 _
        clear hw6 hb7 h6 hb6 k0 k1 k2 k3 k4 c0 z0
        go_upto_region 11 with fail
        obtain ⟨w7, hw7⟩ : ∃ W : World, W = w6.setCell ⟨b7, 4, none⟩ (.bool true) := ⟨_, rfl⟩
        have h7 : w7.heap[b7]? = some (.cells #[.string x0, .string x1, .int .i64 x2, .bool true, .bool true] 200 (0, 0)) := by rw [hw7]; exact heap_setCell_here _ H6.out
        have hb7 : Below wr.heap.size wr w7 := by rw [hw7]; exact HB7.out.2.setCell (p := ⟨b7, 4, none⟩) (by rw [HB7.out.1]; exact Nat.le_refl _) _
        rw [← hw7]
        have HR7 := Lib.hid (HR.out.kept hb7)
        have y0 : w7.cell? ⟨b7, 0, none⟩ = some (.string x0) := cell_of h7 rfl
        have y1 : w7.cell? ⟨b7, 1, none⟩ = some (.string x1) := cell_of h7 rfl
        have y2 : w7.cell? ⟨b7, 2, none⟩ = some (.int .i64 x2) := cell_of h7 rfl
        have y3 : w7.cell? ⟨b7, 3, none⟩ = some (.bool true) := cell_of h7 rfl
        have y4 : w7.cell? ⟨b7, 4, none⟩ = some (.bool true) := cell_of h7 rfl
        clear hw7 h7 hb7 f4
        go_wp2_with (at_builtin; refine wpList_append_rf (w0 := w2) rfl (.tmp 35) (.tmp 37) rfl (HR7.out.alloc _) (l2 := [{ x with named := true }]) (k := 1) rfl (by show readAt _ 5 _ 1 (rfFile _ ++ []); rw [List.append_nil, HXC.out]; exact (rfive_row w7 _ _ _ _ _).read) (t := m + 1) rfl (by omega) rfl rfl ?_; intro oa9 c9 w9 HR9)
        refine ⟨⟨j + 1, m + 1, oa9, c9, by omega, by omega, rfl, by simp, Lib.hid ?_⟩, by simp [intOf]; omega⟩
        rw [HSS.out, if_pos rfl]
        exact HR9.out
    · obtain rfl : j = N := by omega
      go_wp2_with fail
      go_ret
      exact HD.out _ _ HR.out
end Go.Proofs.Ytmkjejngnahpeaa
/- The document's disk: Remove, New. -/
namespace Go.Proofs.Ytmkjejngnahpeaa
open Go Go.Maps Go.RowKit
open Go.Proofs (encStr)

theorem filter_at {l : List F0} {s : List UInt8} (hs : (l.map (·.name)).Pairwise (· < ·)) {i : Nat} (hi : i < l.length) (hn : l[i].name = s) : (l.filter fun f => f.name != s) = l.take i ++ l.drop (i + 1) := by
  have e : l = l.take i ++ (l[i] :: l.drop (i + 1)) := by rw [← List.drop_eq_getElem_cons hi, List.take_append_drop]
  have hs2 := hs
  rw [e, List.map_append, List.map_cons, List.pairwise_append, List.pairwise_cons] at hs2
  conv => lhs; rw [e]
  rw [List.filter_append, List.filter_cons_of_neg (by simp [hn])]
  congr 1
  · refine List.filter_eq_self.2 fun f hf => ?_
    have := hs2.2.2 f.name (List.mem_map_of_mem hf) l[i].name (by simp)
    simp only [bne_iff_ne, ne_eq]
    intro he
    rw [he, hn] at this
    exact List.lt_irrefl _ this
  · refine List.filter_eq_self.2 fun f hf => ?_
    have := hs2.2.1.1 f.name (List.mem_map_of_mem hf)
    simp only [bne_iff_ne, ne_eq]
    intro he
    rw [he, hn] at this
    exact List.lt_irrefl _ this
theorem extract_take (l : List UInt8) (k : Nat) : (⟨l.toArray⟩ : ByteArray).extract 0 k = ⟨(l.take k).toArray⟩ := by
  apply ByteArray.ext
  simp [ByteArray.data_extract]
theorem run_str_take {P : Program} {t : TypeId} (h : P.underlying t = some .string) (s : ByteArray) (k : Nat) (hk : k ≤ s.size) (W : World) : (Instr.slice t (.string s) none (some (.int .i64 (k : Int))) none).run P W = .ok (.string (s.extract 0 k)) W := by
  simp [Instr.slice, Instr.sliceBounds, Instr.sliceBound, asIntOf, run_underlying h, hk]
/-- a file is written whole: what lasts of it may come back -/
theorem RfIs.file_gone {w : World} {S : Nat → Prop} {p : Nat} {rv fv : Value} {d : Dk} (h : RfIs w S p rv fv d) {i : Nat} (hi : i < d.files.length) {g off N c : Nat} (hrv : rv = .slice (some ⟨g, off, none⟩) N c) {x : F0} (hx : d.files[i] = x) (hn : x.named = true) {x0 y1 : ByteArray} (h0 : x0 = ⟨x.name.toArray⟩) (h1 : y1 = ⟨(x.bytes.take x.lasts).toArray⟩) :
    RfIs (((((w.setCell ⟨g, off + i * 5, none⟩ (.string x0)).setCell ⟨g, off + i * 5 + 1, none⟩ (.string y1)).setCell ⟨g, off + i * 5 + 2, none⟩ (.int .i64 x.lasts)).setCell ⟨g, off + i * 5 + 3, none⟩ (.bool false)).setCell ⟨g, off + i * 5 + 4, none⟩ (.bool true)) S p rv fv { d with files := d.files.set i { x with bytes := x.bytes.take x.lasts, there := false } } := by
  have hsz := h.sizes x (by rw [← hx]; exact List.getElem_mem hi)
  have hlt : (x.bytes.take x.lasts).length = x.lasts := by rw [List.length_take]; omega
  have s1 := h.file_set (i := i) (k := 0) (v := .string x0) (f' := x) hi hrv (by omega) (by rw [hx, h0]; rfl) (by rw [hx]) hsz
  have e1 : (d.files.set i x)[i]'(by simpa using hi) = x := List.getElem_set_self _
  have s2 := s1.file_set (i := i) (k := 1) (v := .string y1) (f' := { x with bytes := x.bytes.take x.lasts }) (by simpa using hi) hrv (by omega) (by simp only [e1]; rw [h1]; rfl) (by simp only [e1]) ⟨by show x.lasts ≤ (x.bytes.take x.lasts).length; omega, by show (x.bytes.take x.lasts).length ≤ _; omega⟩
  have e2 : ((d.files.set i x).set i { x with bytes := x.bytes.take x.lasts })[i]'(by simpa using hi) = { x with bytes := x.bytes.take x.lasts } := List.getElem_set_self _
  have s3 := s2.file_set (i := i) (k := 2) (v := .int .i64 x.lasts) (f' := { x with bytes := x.bytes.take x.lasts }) (by simpa using hi) hrv (by omega) (by simp only [e2]; rfl) (by simp only [e2]) ⟨by show x.lasts ≤ (x.bytes.take x.lasts).length; omega, by show (x.bytes.take x.lasts).length ≤ _; omega⟩
  have e3 : (((d.files.set i x).set i { x with bytes := x.bytes.take x.lasts }).set i { x with bytes := x.bytes.take x.lasts })[i]'(by simpa using hi) = { x with bytes := x.bytes.take x.lasts } := List.getElem_set_self _
  have s4 := s3.file_set (i := i) (k := 3) (v := .bool false) (f' := { x with bytes := x.bytes.take x.lasts, there := false }) (by simpa using hi) hrv (by omega) (by simp only [e3]; rfl) (by simp only [e3]) ⟨by show x.lasts ≤ (x.bytes.take x.lasts).length; omega, by show (x.bytes.take x.lasts).length ≤ _; omega⟩
  have e4 : ((((d.files.set i x).set i { x with bytes := x.bytes.take x.lasts }).set i { x with bytes := x.bytes.take x.lasts }).set i { x with bytes := x.bytes.take x.lasts, there := false })[i]'(by simpa using hi) = { x with bytes := x.bytes.take x.lasts, there := false } := List.getElem_set_self _
  have s5 := s4.file_set (i := i) (k := 4) (v := .bool true) (f' := { x with bytes := x.bytes.take x.lasts, there := false }) (by simpa using hi) hrv (by omega) (by simp only [e4]; show rfFile _ = _; unfold rfFile; simp [hn]) (by simp only [e4]) ⟨by show x.lasts ≤ (x.bytes.take x.lasts).length; omega, by show (x.bytes.take x.lasts).length ≤ _; omega⟩
  simp only [List.set_set, Nat.add_zero, ← Nat.add_assoc] at s5
  exact s5
set_option maxRecDepth 100000 in
set_option maxHeartbeats 2000000 in
theorem refRemove_b {w : World} {S : Nat → Prop} {p : Nat} {d : Dk} (h : RfAt w S p d) (nm : ByteArray) (hs : nm.size ≤ maxLen) :
    Calls Try.prog 60 #[.pointer (some ⟨p, 0, none⟩), .string nm] w fun e w' => ROpIs w S p (d.remove nm.data.toList) e w' := by
  obtain ⟨rv, fv, h⟩ := h
  obtain ⟨s, hss⟩ : ∃ s, nm.data.toList = s := ⟨_, rfl⟩
  have H := Lib.hid h
  have HSS := Lib.hid hss
  clear h
  go_enter Try.func60, Try.ntmps60
  go_wp2_with fail
  refine (refFind_b H.out nm hs).mono ?_
  rintro e w' ⟨hF, hw'⟩
  obtain rfl := hw'.symm
  rw [hss] at hF
  clear hss
  rcases hF with ⟨hn, rfl⟩ | ⟨hn, hf, rfl⟩ | ⟨hn, i, hi, hxn, hxt, hf, rfl⟩
  · have HE : Hid (ROpIs w S p (d.remove s) (.returned (.int .i64 2)) w) := Lib.hid (by
      rw [show d.remove s = (2, d) by simp [Dk.remove, hn]]
      exact rop_same H.out (Only.refl _ _) rfl)
    clear hn
    go_wp2_with fail
    go_ret
    rw [HSS.out]
    exact HE.out
  · have HE : Hid (ROpIs w S p (d.remove s) (.returned (.int .i64 171)) w) := Lib.hid (by
      rw [show d.remove s = (171, d) by simp [Dk.remove, hn, hf]]
      exact rop_same H.out (Only.refl _ _) rfl)
    clear hn hf
    go_wp2_with fail
    go_ret
    rw [HSS.out]
    exact HE.out
  · have HX := Lib.hid (And.intro hn (And.intro hxn (And.intro hxt hf)))
    clear hn hxn hxt hf
    go_wp2_with fail
    refine (refStep_b H.out).mono ?_
    rintro e w2 ⟨kp, fv2, rfl, -, h2, ho2⟩
    obtain ⟨er, her⟩ : ∃ n, d.fate.1 = n := ⟨_, rfl⟩
    rw [her]
    by_cases h0 : er = 0
    case neg =>
      have hne : (er != 0) = true := by simpa using h0
      have HE : Hid (ROpIs w S p (d.remove s) (.returned (.int .i64 er)) w2) := Lib.hid (by
        rw [show d.remove s = (er, d.next) by
          unfold Dk.remove
          rw [if_neg (by rw [HX.out.1]; simp), HX.out.2.2.2]
          show (if _ then _ else _) = _
          rw [if_pos (by rw [her]; exact h0), her]]
        exact rop_same h2 (only_p ho2 H.out.footp) rfl)
      clear h2 ho2 her
      go_wp2_with fail
      go_ret
      rw [HSS.out]
      exact HE.out
    subst h0
    obtain ⟨oa, c, rfl, hnc⟩ := H.out.files.shape
    obtain ⟨N, hN⟩ : ∃ N, d.files.length = N := ⟨_, rfl⟩
    obtain ⟨x, hx⟩ : ∃ x, d.files[i] = x := ⟨_, rfl⟩
    have hN4 : N ≤ 4096 := by rw [← hN]; exact H.out.few
    have hfl : d.next.files = d.files := rfl
    have hrow := h2.files
    rw [hfl, hN] at hrow
    rw [hN] at hnc
    have hiN : i < N := by omega
    have hh2 := h2.head
    rw [hN] at hh2
    have hplt : p < w2.heap.size := h2.low p h2.footp
    obtain ⟨g, off, rfl⟩ := hrow.addr (by omega)
    have hglt : g < w2.heap.size := hrow.lt g rfl
    obtain ⟨x0, hx0⟩ : ∃ a : ByteArray, a = ⟨x.name.toArray⟩ := ⟨_, rfl⟩
    obtain ⟨x1, hx1⟩ : ∃ a : ByteArray, a = ⟨x.bytes.toArray⟩ := ⟨_, rfl⟩
    obtain ⟨la, hla⟩ : ∃ a : Nat, a = x.lasts := ⟨_, rfl⟩
    obtain ⟨x3, hx3⟩ : ∃ a, a = x.there := ⟨_, rfl⟩
    obtain ⟨x4, hx4⟩ : ∃ a, a = x.named := ⟨_, rfl⟩
    have hxc : rfFile x = [.string x0, .string x1, .int .i64 la, .bool x3, .bool x4] := by
      unfold rfFile
      rw [hx0, hx1, hla, hx3, hx4]
    have k0 : w2.cell? ⟨g, off + i * 5, none⟩ = some (.string x0) := rf_cell (i := 0) hrow hi (by omega) (by rw [hx, hxc]; rfl)
    have k1 : w2.cell? ⟨g, off + i * 5 + 1, none⟩ = some (.string x1) := rf_cell (i := 1) hrow hi (by omega) (by rw [hx, hxc]; rfl)
    have k2 : w2.cell? ⟨g, off + i * 5 + 2, none⟩ = some (.int .i64 la) := rf_cell (i := 2) hrow hi (by omega) (by rw [hx, hxc]; rfl)
    have k3 : w2.cell? ⟨g, off + i * 5 + 3, none⟩ = some (.bool x3) := rf_cell (i := 3) hrow hi (by omega) (by rw [hx, hxc]; rfl)
    have k4 : w2.cell? ⟨g, off + i * 5 + 4, none⟩ = some (.bool x4) := rf_cell (i := 4) hrow hi (by omega) (by rw [hx, hxc]; rfl)
    have c0 : w2.cell? ⟨p, 0, none⟩ = some (.slice (some ⟨g, off, none⟩) N c) := cell_of hh2 rfl
    have hsz := h2.sizes x (by rw [hfl, ← hx]; exact List.getElem_mem hi)
    have HH2 := Lib.hid (And.intro hh2 (And.intro hrow (And.intro hplt hglt)))
    have HN := Lib.hid hN
    have HX2 := Lib.hid (And.intro hx (And.intro hxc (And.intro hx1 (And.intro hla (And.intro hsz (And.intro hx0 hx4))))))
    have H2 := Lib.hid (And.intro h2 (And.intro ho2 her))
    clear hrow hh2 hx hxc hx0 hx1 hla hx3 hx4 hsz h2 ho2 her hN hfl
    go_upto_region 8 with fail
    obtain ⟨w3, hw3⟩ : ∃ W : World, W = w2.alloc (.cells #[.string x0, .string x1, .int .i64 la, .bool x3, .bool x4] 200) := ⟨_, rfl⟩
    obtain ⟨b9, hb9⟩ : ∃ b, b = w2.heap.size := ⟨_, rfl⟩
    have h3 : w3.heap[b9]? = some (.cells #[.string x0, .string x1, .int .i64 la, .bool x3, .bool x4] 200 (0, 0)) := by rw [hw3, hb9]; exact alloc_cells _ _ _
    have hb3 : Below w2.heap.size w2 w3 := by rw [hw3]; exact (Below.refl _ _).alloc (Nat.le_refl _) _
    rw [← hw3, ← hb9]
    have H3 := Lib.hid (And.intro hb9 hb3)
    have hrow3 := HH2.out.2.1.kept (fun k hk => hb3.block k (HH2.out.2.1.lt k hk))
    have c03 : w3.cell? ⟨p, 0, none⟩ = some (.slice (some ⟨g, off, none⟩) N c) := cell_of ((hb3.block p HH2.out.2.2.1).trans HH2.out.1) rfl
    have y0 : w3.cell? ⟨b9, 0, none⟩ = some (.string x0) := cell_of h3 rfl
    have y1 : w3.cell? ⟨b9, 1, none⟩ = some (.string x1) := cell_of h3 rfl
    have y2 : w3.cell? ⟨b9, 2, none⟩ = some (.int .i64 la) := cell_of h3 rfl
    have y4 : w3.cell? ⟨b9, 4, none⟩ = some (.bool x4) := cell_of h3 rfl
    have HR3 := Lib.hid hrow3
    clear hw3 hb9 h3 hb3 hrow3 k0 k1 k2 k3 k4 c0
    cases x4
    · have HD : Hid (∀ (w5 : World) (v' : Value), NewRow w3 w5 v' (d.files.take i ++ d.files.drop (i + 1)) → ROpIs w S p (d.remove s) (.returned (.int .i64 0)) (w5.setCell ⟨p, 0, none⟩ v')) := Lib.hid (fun w5 v' hr => by
        obtain ⟨h2, ho2, her⟩ := H2.out
        obtain ⟨hx, -, -, -, -, -, hx4⟩ := HX2.out
        have hfa : (d.files.filter fun f => f.name != s) = d.files.take i ++ d.files.drop (i + 1) := filter_at h2.sorted (i := i) hi HX.out.2.1
        have hde : d.remove s = (0, { d.next with files := d.files.filter fun f => f.name != s }) := by
          unfold Dk.remove
          rw [if_neg (by rw [HX.out.1]; simp), HX.out.2.2.2, hx]
          show (if _ then _ else if _ then _ else _) = _
          rw [if_neg (by rw [her]; simp), if_neg (by rw [← hx4]; simp)]
        have hsub : (d.files.filter fun f => f.name != s).Sublist d.files := List.filter_sublist
        rw [← hfa] at hr
        rw [hde]
        exact rf_store (h2.below H3.out.2) (ho2.trans (Only.of_below H3.out.2 (Nat.le_refl _) _) (fun _ _ h => h)) hr (h2.sorted.sublist (hsub.map _)) (fun f hf => h2.names f (hsub.subset hf)) (fun f hf => h2.sizes f (hsub.subset hf)) (by have := hsub.length_le; have := HN.out; omega) 0)
      have hz := add_zero_map (some (⟨g, off, none⟩ : Addr))
      have hsl1 := fun W => rtake_run (n := N) i (by omega : i ≤ c) hz W
      have hsl2 := fun W => rdrop_run (some (⟨g, off, none⟩ : Addr)) N c (i + 1) (by omega) W
      have hcast : ((i + 1 : Nat) : Int) = (i : Int) + 1 := by omega
      simp only [hcast] at hsl2
      obtain ⟨od, hod⟩ : ∃ od : Option Addr, od = if c = i + 1 then some ⟨g, off, none⟩ else (some (⟨g, off, none⟩ : Addr)).map (·.add ((i + 1) * 5)) := ⟨_, rfl⟩
      rw [← hod] at hsl2
      have HOD := Lib.hid hod
      have hp3 : p < w3.heap.size := Nat.lt_of_lt_of_le hplt H3.out.2.size
      have HP3 := Lib.hid ((H3.out.2.block p hplt).trans HH2.out.1)
      clear hod hz hcast
      go_wp2_with (at_builtin; first | (refine wpList_append_rf (w0 := w3) rfl (.tmp 53) (.tmp 59) rfl (NewRow.nil (Below.refl _ _)) (l2 := d.files.take i) (k := i) (by rw [List.length_take, HN.out]; omega) (rowAt.files_take HR3.out (by omega)) (t := i) (by omega) (by omega) rfl rfl ?_; intro oa4 c4 w4 HL1; have hp4 := (HL1.out.below.block p hp3).trans HP3.out; have c04 : w4.cell? ⟨p, 0, none⟩ = some (.slice (some ⟨g, off, none⟩) N c) := cell_of hp4 rfl; clear hp4) | (refine wpList_append_rf (w0 := w3) rfl (.tmp 62) (.tmp 69) rfl HL1.out (l2 := d.files.drop (i + 1)) (k := N - (i + 1)) (by rw [List.length_drop, HN.out]) (by rw [HOD.out]; exact rowAt.files_drop (HR3.out.kept (fun k hk => HL1.out.below.block k (HR3.out.lt k hk))) (by omega)) (t := N - 1) (by omega) (by omega) rfl rfl ?_; intro oa5 c5 w5 HL3; have hp5 := (HL3.out.below.block p hp3).trans HP3.out; have c05 : w5.cell? ⟨p, 0, none⟩ = some (.slice (some ⟨g, off, none⟩) N c) := cell_of hp5 rfl; have z05 : w5.frozen? ⟨p, 0, none⟩ = false := free_of hp5 _; clear hp5))
      go_ret
      rw [HSS.out]
      refine HD.out _ _ ?_
      have h9 := HL3.out
      simp only [List.nil_append] at h9
      exact h9
    · have HD : Hid (∀ W, W = (((((w3.setCell ⟨g, off + i * 5, none⟩ (.string x0)).setCell ⟨g, off + i * 5 + 1, none⟩ (.string (x1.extract 0 la))).setCell ⟨g, off + i * 5 + 2, none⟩ (.int .i64 la)).setCell ⟨g, off + i * 5 + 3, none⟩ (.bool false)).setCell ⟨g, off + i * 5 + 4, none⟩ (.bool true)).drew → ROpIs w S p (d.remove s) (.returned (.int .i64 0)) W) := Lib.hid (fun W hW => by
        obtain ⟨h2, ho2, her⟩ := H2.out
        obtain ⟨hx, hxc, hx1, hla, hsz, hx0, hx4⟩ := HX2.out
        have hde : d.remove s = (0, { d.next with files := d.files.set i { x with bytes := x.bytes.take x.lasts, there := false } }) := by
          unfold Dk.remove
          rw [if_neg (by rw [HX.out.1]; simp), HX.out.2.2.2, hx]
          show (if _ then _ else if _ then _ else _) = _
          rw [if_neg (by rw [her]; simp), if_pos hx4.symm]
          have ht := turn_set (l := d.files) h2.sorted (i := i) hi HX.out.2.1 (fun f => { f with bytes := f.bytes.take f.lasts, there := false })
          rw [hx] at ht
          show (0, ({ files := d.files.map _, fates := _, steps := _ } : Dk)) = _
          rw [ht]
        have h3 := (h2.below H3.out.2).file_gone (i := i) (x := x) hi rfl hx hx4.symm hx0 (y1 := x1.extract 0 la) (by rw [hx1, hla, extract_take])
        rw [← hla] at h3
        have ho3 : ∀ (W : World) (k : Nat) (v : Value), Only (fun j => j = g) W (W.setCell ⟨g, k, none⟩ v) := fun W k v => only_setCell (fun j => j = g) _ _ _ _ rfl
        have hog : Only (fun j => j = g) w3 (((((w3.setCell ⟨g, off + i * 5, none⟩ (.string x0)).setCell ⟨g, off + i * 5 + 1, none⟩ (.string (x1.extract 0 la))).setCell ⟨g, off + i * 5 + 2, none⟩ (.int .i64 la)).setCell ⟨g, off + i * 5 + 3, none⟩ (.bool false)).setCell ⟨g, off + i * 5 + 4, none⟩ (.bool true)) :=
          ((((ho3 _ _ _).trans (ho3 _ _ _) (fun _ _ h => h)).trans (ho3 _ _ _) (fun _ _ h => h)).trans (ho3 _ _ _) (fun _ _ h => h)).trans (ho3 _ _ _) (fun _ _ h => h)
        rw [hde, hW]
        refine rop_same h3.drew (only_drew ?_) (by rw [hla]; rfl)
        exact ((only_p ho2 H.out.footp).trans (Only.of_below H3.out.2 (Nat.le_refl _) S) (fun _ _ h => h)).trans (only_r (v := .slice (some ⟨g, off, none⟩) d.files.length c) (g := g) hog rfl H.out.footr) (fun _ _ h => h))
      have hle : la ≤ x1.size := by
        have := HX2.out
        rw [this.2.2.1]
        have h5 := this.2.2.2.2.1
        have h6 := this.2.2.2.1
        simp [ByteArray.size]
        omega
      have hsl : ∀ W : World, (Instr.slice 9 (.string x1) none (some (.int .i64 (la : Int))) none).run Try.prog W = .ok (.string (x1.extract 0 la)) W := run_str_take Try.underlying9 x1 la hle
      obtain ⟨yb, hyb⟩ : ∃ b, b = x1.extract 0 la := ⟨_, rfl⟩
      have HX3 : Hid (rfFile x = [.string x0, .string x1, .int .i64 la, .bool x3, .bool true]) := Lib.hid HX2.out.2.1
      have k0 : w3.cell? ⟨g, off + i * 5, none⟩ = some (.string x0) := rf_cell (i := 0) HR3.out hi (by omega) (by rw [HX2.out.1, HX3.out]; rfl)
      have k1 : w3.cell? ⟨g, off + i * 5 + 1, none⟩ = some (.string x1) := rf_cell (i := 1) HR3.out hi (by omega) (by rw [HX2.out.1, HX3.out]; rfl)
      have k2 : w3.cell? ⟨g, off + i * 5 + 2, none⟩ = some (.int .i64 la) := rf_cell (i := 2) HR3.out hi (by omega) (by rw [HX2.out.1, HX3.out]; rfl)
      have k3 : w3.cell? ⟨g, off + i * 5 + 3, none⟩ = some (.bool x3) := rf_cell (i := 3) HR3.out hi (by omega) (by rw [HX2.out.1, HX3.out]; rfl)
      have k4 : w3.cell? ⟨g, off + i * 5 + 4, none⟩ = some (.bool true) := rf_cell (i := 4) HR3.out hi (by omega) (by rw [HX2.out.1, HX3.out]; rfl)
      have z0 : w3.frozen? ⟨g, off + i * 5, none⟩ = false := HR3.out.freeAt (j := i * 5) (by omega)
      have z1 : w3.frozen? ⟨g, off + i * 5 + 1, none⟩ = false := by have := HR3.out.freeAt (j := i * 5 + 1) (by omega); rwa [← Nat.add_assoc] at this
      have z2 : w3.frozen? ⟨g, off + i * 5 + 2, none⟩ = false := by have := HR3.out.freeAt (j := i * 5 + 2) (by omega); rwa [← Nat.add_assoc] at this
      have z3 : w3.frozen? ⟨g, off + i * 5 + 3, none⟩ = false := by have := HR3.out.freeAt (j := i * 5 + 3) (by omega); rwa [← Nat.add_assoc] at this
      have z4 : w3.frozen? ⟨g, off + i * 5 + 4, none⟩ = false := by have := HR3.out.freeAt (j := i * 5 + 4) (by omega); rwa [← Nat.add_assoc] at this
      rw [← hyb] at hsl HD
      clear hyb hle
      go_wp2_with fail
      go_region
      go_wp2_with fail
      go_ret
      rw [HSS.out]
      exact HD.out _ rfl
set_option maxRecDepth 100000 in
set_option maxHeartbeats 1000000 in
theorem refNew_b {w : World} {oa : Option Addr} {n c : Nat} {fs : List (Int × Int)} (hn : fs.length = n) (h : readAt w 2 (.slice oa n c) n (fateCells fs)) (hm : n ≤ 1000000) :
    Calls Try.prog 53 #[.slice oa n c] w fun e w' => ∃ p, e = .returned (.pointer (some ⟨p, 0, none⟩)) ∧ RfAt w' (Can w.heap.size w') p ⟨[], fs, 0⟩ ∧ Below w.heap.size w w' := by
  have HR := Lib.hid h
  have HN := Lib.hid hn
  clear h hn
  go_enter Try.func53, Try.ntmps53
  go_wp2_with (at_builtin; refine wpList_append_at _ rfl (.const (.slice none 0 0)) (.tmp 3) 65 65 rfl 99 (.agg #[.int .i64 0, .int .i64 0]) 2 16 Try.underlying65 info_fate rfl _ 0 [] rfl ⟨rfl, .inl ⟨rfl, rfl⟩⟩ _ n _ rfl (Src.of_read Try.underlying65 HR.out (fateCells_one fs)) (by unfold maxLen; omega) (by omega) ?_; intro v' w3 hr hg hown _; rw [Nat.zero_add] at hr; obtain ⟨oa', c', rfl, _⟩ := hr.shape; have HRW := Lib.hid (And.intro hr (And.intro hg hown)); clear hr hg hown)
  go_ret
  obtain ⟨hr, hg0, hown0⟩ := HRW.out
  have hg : w.grownBy w3 none := hg0
  have hown : (Value.slice oa' n c').ownBlock = none ∨ (Value.slice oa' n c').ownBlock = some w.heap.size := hown0
  rw [List.nil_append] at hr
  have hb3 : Below w.heap.size w w3 := (Below.refl _ _).grown hg (Nat.le_refl _) (fun k e => by cases e)
  have hb4 : Below w3.heap.size w3 (w3.alloc (.cells #[.slice none 0 0, .slice oa' n c', .int .i64 0] 198)) := (Below.refl _ _).alloc (Nat.le_refl _) _
  refine ⟨w3.heap.size, rfl, ⟨.slice none 0 0, .slice oa' n c', ?_⟩, hb3.trans (hb4.mono hb3.size)⟩
  have hsz := hb3.size
  exact {
    head := alloc_cells _ _ _
    files := ⟨rfl, .inl ⟨rfl, rfl⟩⟩
    fates := by
      show rowAt _ _ 2 (.slice oa' n c') fs.length _
      rw [HN.out]
      exact hr.kept (fun k hk => hb4.block k (hr.lt k hk))
    footp := ⟨hsz, by simp⟩
    footr := fun k hk => by simp [Value.ownBlock] at hk
    footf := fun k hk => ⟨by
      rcases hown with h1 | h1
      · rw [hk] at h1; cases h1
      · rw [hk] at h1; simp only [Option.some.injEq] at h1; omega, by have := hr.lt k hk; simp; omega⟩
    low := fun k hk => hk.2
    sorted := List.Pairwise.nil
    names := fun f hf => by cases hf
    sizes := fun f hf => by cases hf
    few := by show (0 : Nat) ≤ 4096; omega }
end Go.Proofs.Ytmkjejngnahpeaa
/- Disk: two files that are the same; lists with the same files. -/
namespace Go.Proofs.Ytmkjejngnahpeaa
open Go Go.Maps Go.RowKit
open Go.Proofs (encStr)

set_option maxHeartbeats 400000 in
theorem bytesEq_b {w : World} {va vb : Value} {a b : List UInt8} (ha : rowAt w 5 1 va a.length (byteCells a)) (hb : rowAt w 5 1 vb b.length (byteCells b)) :
    Calls Try.prog 124 #[va, vb] w fun e w' => e = .returned (.bool (decide (a = b))) ∧ w' = w := by
  have h1 := run_string_at (P := Try.prog) w 79 9 5 va a Try.underlying79 Try.underlying5 Try.underlying9 ha
  have h2 := run_string_at (P := Try.prog) w 79 9 5 vb b Try.underlying79 Try.underlying5 Try.underlying9 hb
  obtain ⟨_, _, rfl, _⟩ := ha.shape
  obtain ⟨_, _, rfl, _⟩ := hb.shape
  have he : (a == b) = decide (a = b) := by by_cases h : a = b <;> simp [h]
  have HE := Lib.hid he
  clear ha hb he
  go_enter Try.func124, Try.ntmps124
  go_wp2_with fail
  go_ret
  refine ⟨?_, rfl⟩
  rw [← HE.out]
  rfl
theorem nodup_sub_length {α : Type} [DecidableEq α] : ∀ {l l' : List α}, l.Nodup → (∀ x ∈ l, x ∈ l') → l.length ≤ l'.length
  | [], _, _, _ => Nat.zero_le _
  | a :: t, l', hn, hs => by
    have ha := hs a (by simp)
    rw [List.nodup_cons] at hn
    have h1 := nodup_sub_length (l' := l'.erase a) hn.2 (fun x hx => (List.mem_erase_of_ne (fun e => hn.1 (by rw [← e]; exact hx))).2 (hs x (by simp [hx])))
    rw [List.length_erase_of_mem ha] at h1
    have h2 := List.length_pos_of_mem ha
    simp only [List.length_cons]
    omega
theorem sorted_sub_eq : ∀ {l l' : List F0}, (l.map (·.name)).Pairwise (· < ·) → (l'.map (·.name)).Pairwise (· < ·) → (∀ x ∈ l, x ∈ l') → l.length = l'.length → l = l'
  | [], [], _, _, _, _ => rfl
  | [], _ :: _, _, _, _, h => by simp at h
  | _ :: _, [], _, _, _, h => by simp at h
  | f :: r, g :: s, h1, h2, hs, hl => by
    have hnd : (f :: r).Nodup := by
      have : ((f :: r).map (·.name)).Nodup := h1.imp (fun {a b} hab he => by rw [he] at hab; exact List.lt_irrefl _ hab)
      exact (List.pairwise_map.1 this).imp (fun {a b} hab he => hab (by rw [he]))
    rw [List.map_cons, List.pairwise_cons] at h1 h2
    have hfg : f = g := by
      refine Classical.byContradiction fun hne => ?_
      have hfs : f ∈ s := by
        rcases List.mem_cons.1 (hs f (by simp)) with h | h
        · exact absurd h hne
        · exact h
      have hgf : g.name < f.name := h2.1 _ (List.mem_map_of_mem hfs)
      have hall : ∀ x ∈ f :: r, x ∈ s := fun x hx => by
        rcases List.mem_cons.1 (hs x hx) with h | h
        · exfalso
          subst h
          rcases List.mem_cons.1 hx with h | h
          · exact hne h.symm
          · exact List.lt_irrefl _ (List.lt_trans hgf (h1.1 _ (List.mem_map_of_mem h)))
        · exact h
      have := nodup_sub_length hnd hall
      simp only [List.length_cons] at this hl
      omega
    subst hfg
    rw [List.nodup_cons] at hnd
    rw [sorted_sub_eq h1.2 h2.2 (fun x hx => by
      rcases List.mem_cons.1 (hs x (by simp [hx])) with h | h
      · exact absurd (h ▸ hx) hnd.1
      · exact h) (by simpa using hl)]
/-- all but the name is alike -/
def sameF (f g : F0) : Bool := decide (f.lasts = g.lasts) && decide (f.there = g.there) && decide (f.named = g.named) && decide (f.bytes = g.bytes)
theorem sameF_eq {f g : F0} (h : sameF f g = true) (hn : f.name = g.name) : f = g := by
  obtain ⟨a, b, c, d, e⟩ := f
  obtain ⟨a', b', c', d', e'⟩ := g
  simp [sameF] at h
  simp only at hn
  simp [hn, h]
theorem sameF_self (f : F0) : sameF f f = true := by simp [sameF]
set_option maxRecDepth 100000 in
set_option maxHeartbeats 1000000 in
theorem same1_b {w : World} {x y : Fl} (hx : FlAt w x) (hy : FlAt w y) : Calls Try.prog 123 #[.pointer (some ⟨x.blk, 0, none⟩), .pointer (some ⟨y.blk, 0, none⟩)] w fun e w' => e = .returned (.bool (sameF x.f y.f)) ∧ w.grownBy w' none := by
  obtain ⟨oa, c, hbx, _⟩ := hx.row.shape
  obtain ⟨ob, cb, hby, _⟩ := hy.row.shape
  have hcx := hx.cells
  have hcy := hy.cells
  have HR : Hid (rowAt w 5 1 (.slice oa x.f.bytes.length c) x.f.bytes.length (byteCells x.f.bytes) ∧ rowAt w 5 1 (.slice ob y.f.bytes.length cb) y.f.bytes.length (byteCells y.f.bytes)) := Lib.hid ⟨by have := hx.row; rwa [hbx] at this, by have := hy.row; rwa [hby] at this⟩
  rw [hbx] at hcx
  rw [hby] at hcy
  obtain ⟨n, hn⟩ : ∃ n, x.f.bytes.length = n := ⟨_, rfl⟩
  obtain ⟨m, hm⟩ : ∃ m, y.f.bytes.length = m := ⟨_, rfl⟩
  obtain ⟨lx, hlx⟩ : ∃ lx, x.f.lasts = lx := ⟨_, rfl⟩
  obtain ⟨ly, hly⟩ : ∃ ly, y.f.lasts = ly := ⟨_, rfl⟩
  obtain ⟨tx, htx⟩ : ∃ tx, x.f.there = tx := ⟨_, rfl⟩
  obtain ⟨ty, hty⟩ : ∃ ty, y.f.there = ty := ⟨_, rfl⟩
  obtain ⟨nx, hnx⟩ : ∃ nx, x.f.named = nx := ⟨_, rfl⟩
  obtain ⟨ny, hny⟩ : ∃ ny, y.f.named = ny := ⟨_, rfl⟩
  rw [hn, hlx, htx, hnx] at hcx
  rw [hm, hly, hty, hny] at hcy
  have HV : Hid (sameF x.f y.f = (decide (lx = ly) && decide (tx = ty) && decide (nx = ny) && decide (x.f.bytes = y.f.bytes))) := Lib.hid (by unfold sameF; rw [hlx, hly, htx, hty, hnx, hny])
  have HE : Hid (∀ W : World, W.grownBy W.drew none) := Lib.hid (fun W => ⟨rfl, rfl, rfl, Nat.le_refl _, fun _ _ _ => rfl⟩)
  have x0 : w.cell? ⟨x.blk, 0, none⟩ = some (.slice oa n c) := cell_of hcx rfl
  have x1 : w.cell? ⟨x.blk, 1, none⟩ = some (.int .i64 lx) := cell_of hcx rfl
  have x2 : w.cell? ⟨x.blk, 2, none⟩ = some (.bool tx) := cell_of hcx rfl
  have x3 : w.cell? ⟨x.blk, 3, none⟩ = some (.bool nx) := cell_of hcx rfl
  have y0 : w.cell? ⟨y.blk, 0, none⟩ = some (.slice ob m cb) := cell_of hcy rfl
  have y1 : w.cell? ⟨y.blk, 1, none⟩ = some (.int .i64 ly) := cell_of hcy rfl
  have y2 : w.cell? ⟨y.blk, 2, none⟩ = some (.bool ty) := cell_of hcy rfl
  have y3 : w.cell? ⟨y.blk, 3, none⟩ = some (.bool ny) := cell_of hcy rfl
  have HC : Hid (∀ W : World, (W = w ∨ W = w.drew) → Calls Try.prog 124 #[.slice oa n c, .slice ob m cb] W fun e w' => e = .returned (.bool (decide (x.f.bytes = y.f.bytes))) ∧ w' = W) := Lib.hid (fun W hW => by
    have hk : ∀ k : Nat, W.heap[k]? = w.heap[k]? := by rcases hW with rfl | rfl <;> intro k <;> rfl
    have := bytesEq_b (HR.out.1.kept (fun k _ => hk k)) (HR.out.2.kept (fun k _ => hk k))
    rwa [hn, hm] at this)
  obtain ⟨eb, heb⟩ : ∃ eb, decide (x.f.bytes = y.f.bytes) = eb := ⟨_, rfl⟩
  rw [heb] at HC HV
  clear hx hy hcx hcy hbx hby hn hm hlx hly htx hty hnx hny heb HR
  by_cases hl : lx = ly
  · subst hl
    have hb1 : (((lx : Nat) : Int) == (lx : Int)) = true := by simp
    obtain ⟨b2, hb2⟩ : ∃ b, (tx == ty) = b := ⟨_, rfl⟩
    obtain ⟨b3, hb3⟩ : ∃ b, (nx == ny) = b := ⟨_, rfl⟩
    have hv := HV.out
    rw [decide_eq_true rfl, Bool.true_and, show decide (tx = ty) = b2 by rw [← hb2]; cases tx <;> cases ty <;> rfl, show decide (nx = ny) = b3 by rw [← hb3]; cases nx <;> cases ny <;> rfl] at hv
    have HV2 := Lib.hid hv
    clear HV hv
    cases b2
    · go_enter Try.func123, Try.ntmps123
      go_upto_region 1 with fail
      go_region
      go_wp2_with fail
      go_ret
      exact ⟨by rw [HV2.out]; rfl, HE.out _⟩
    · cases b3
      · go_enter Try.func123, Try.ntmps123
        go_upto_region 1 with fail
        go_region
        go_wp2_with fail
        go_ret
        exact ⟨by rw [HV2.out]; rfl, HE.out _⟩
      · go_enter Try.func123, Try.ntmps123
        go_upto_region 1 with fail
        go_still_tail 40, (by kernel_rfl)
        change wpList _ _ _ _ _ w.drew
        go_wp2_with fail
        refine (HC.out _ (.inr rfl)).mono ?_
        rintro e w5 ⟨rfl, rfl⟩
        go_wp2_with fail
        go_ret
        exact ⟨by rw [HV2.out]; rfl, HE.out _⟩
  · have hb1 : (((lx : Nat) : Int) == (ly : Int)) = false := by simp; omega
    have hv := HV.out
    rw [decide_eq_false hl] at hv
    have HV2 := Lib.hid hv
    clear hl HV hv
    go_enter Try.func123, Try.ntmps123
    go_upto_region 1 with fail
    go_region
    go_wp2_with fail
    go_ret
    exact ⟨by rw [HV2.out]; rfl, HE.out _⟩
end Go.Proofs.Ytmkjejngnahpeaa
/- Disk: Same. -/
namespace Go.Proofs.Ytmkjejngnahpeaa
open Go Go.Maps Go.RowKit
open Go.Proofs (encStr)

theorem below_grown {w w' : World} (h : w.grownBy w' none) : Below w.heap.size w w' := (Below.refl _ _).grown h (Nat.le_refl _) (fun k e => by cases e)
theorem all_found {L1 L2 : List Fl} {left : Lit → Bool} (h : ∀ x ∈ L1, left (.string x.f.name) = false → x.f ∈ L2.map (·.f)) (h0 : ∀ k, left k = false) (h1 : ((L1.map (·.f)).map (·.name)).Pairwise (· < ·)) (h2 : ((L2.map (·.f)).map (·.name)).Pairwise (· < ·)) (hl : L1.length = L2.length) : L1.map (·.f) = L2.map (·.f) :=
  sorted_sub_eq h1 h2 (fun f hf => by
    obtain ⟨x, hx, rfl⟩ := List.mem_map.1 hf
    exact h x hx (h0 _)) (by simpa using hl)
set_option maxRecDepth 100000 in
set_option maxHeartbeats 1000000 in
theorem equal_b {w : World} {S1 S2 : Nat → Prop} {q1 q2 m1 m2 : Nat} {fv1 fv2 : Value} {L1 L2 : List Fl} {d1 d2 : Dk} (h1 : DiskIs w S1 q1 m1 fv1 L1 d1) (h2 : DiskIs w S2 q2 m2 fv2 L2 d2) :
    Calls Try.prog 122 #[.map (some m1), .map (some m2), .func (.func 123) #[] #[]] w fun e w' => e = .returned (.bool (decide (d1.files = d2.files))) ∧ w.grownBy w' none := by
  obtain ⟨D1, hown1, hsz1, hd1⟩ := h1.look
  obtain ⟨D2, hown2, hsz2, hd2⟩ := h2.look
  have hl1 : ∀ W : World, W.heap[m1]? = w.heap[m1]? → (Builtin.len_ #[120] 3 #[.map (some m1)]).run Try.prog W = .ok (.int .i64 (L1.length : Int)) W := fun W hW => by
    have := (ownsMap_kept hown1 hW).len (t := 120) Try.underlying120 3
    rw [hsz1] at this
    exact this
  have hl2 : ∀ W : World, W.heap[m2]? = w.heap[m2]? → (Builtin.len_ #[120] 3 #[.map (some m2)]).run Try.prog W = .ok (.int .i64 (L2.length : Int)) W := fun W hW => by
    have := (ownsMap_kept hown2 hW).len (t := 120) Try.underlying120 3
    rw [hsz2] at this
    exact this
  have hlen1 := hl1 w rfl
  have hlen2 := hl2 w rfl
  have H1 := Lib.hid h1
  have H2 := Lib.hid h2
  have HDIC : Hid (Dic D1 (pairsF L1)) := Lib.hid hd1
  have hE1 : d1.files = L1.map (·.f) := h1.files.symm
  have hE2 : d2.files = L2.map (·.f) := h2.files.symm
  have HR : Hid (decide (d1.files = d2.files) = decide (L1.map (·.f) = L2.map (·.f))) := Lib.hid (by rw [hE1, hE2])
  have HS1 : Hid (((L1.map (·.f)).map (·.name)).Pairwise (· < ·)) := Lib.hid (by rw [← hE1]; exact h1.sorted)
  have HS2 : Hid (((L2.map (·.f)).map (·.name)).Pairwise (· < ·)) := Lib.hid (by rw [← hE2]; exact h2.sorted)
  have HNM : Hid (∀ x ∈ L1, nameOk x.f.name = true) := Lib.hid (fun x hx => h1.names x.f (by rw [hE1]; exact List.mem_map_of_mem hx))
  obtain ⟨n1, hn1⟩ : ∃ n, L1.length = n := ⟨_, rfl⟩
  obtain ⟨n2, hn2⟩ : ∃ n, L2.length = n := ⟨_, rfl⟩
  rw [hn1] at hlen1 hown1
  rw [hn2] at hlen2
  clear h1 h2 hd1 hd2 hown2 hl1 hl2 hsz1 hsz2 hE1 hE2
  by_cases hn : n1 = n2
  · subst hn
    have HLL : Hid (L1.length = L2.length) := Lib.hid (hn1.trans hn2.symm)
    clear hn1 hn2
    have hb0 : (((n1 : Nat) : Int) != (n1 : Int)) = false := by simp
    go_enter Try.func122, Try.ntmps122
    go_wp2_with (at_range; refine wpList_range_own _ rfl _ 120 rfl 9 176 (string_keyed Try.underlying9) Try.underlying120 ptrElem m1 _ _ rfl hown1 ?_; intro w0 hrg0 hg0 hs0)
    go_frame
    go_loopw [18] (fun _ wr => ∃ (left : Lit → Bool) (cnt : Nat), wr.ranges Try.prog 9 ptrElem m1 w.heap.size n1 D1 left cnt ∧ Hid (w.grownBy wr none) ∧ Hid (∀ x ∈ L1, left (.string x.f.name) = false → x.f ∈ L2.map (·.f)))
      (fun _ wr => wr.rangeLeft m1 w.heap.size)
    case atStart =>
      refine ⟨_, _, hrg0, Lib.hid hg0, Lib.hid fun x hx hf => ?_⟩
      have : has D1 (.string x.f.name) = true := (HDIC.out.has x.f.name).2 ⟨_, List.mem_map_of_mem (f := fun x : Fl => (x.f.name, x.blk)) hx, rfl⟩
      rw [this] at hf
      cases hf
    case round =>
      obtain ⟨left, cnt, hrg, HG, HF⟩ := hrel
      go_wp2_with (at_next; refine wpList_next_dic _ rfl _ rfl HDIC.out m1 w.heap.size _ left cnt rfl hrg ?_ ?_)
      · intro hl0
        have HX : Hid (L1.map (·.f) = L2.map (·.f)) := Lib.hid (all_found HF.out hl0 HS1.out HS2.out HLL.out)
        go_wp2_with fail
        go_ret
        exact ⟨by rw [HR.out, decide_eq_true HX.out]; rfl, HG.out⟩
      · intro s b w5 cnt5 hmem hls hrg5 hlt hg5 hs5 hen HKEY
        obtain ⟨x, hx, rfl, rfl⟩ := mem_pairsF hmem
        have hg5' : w.grownBy w5 none := HG.out.andThen hg5 (fun j hj => by cases hj; exact Or.inl (Nat.le_refl _))
        have HG5 := Lib.hid hg5'
        have hb5 := below_grown hg5'
        have h15 := H1.out.below hb5
        have h25 := H2.out.below hb5
        obtain ⟨nm, hnm⟩ : ∃ nm : ByteArray, nm = ⟨x.f.name.toArray⟩ := ⟨_, rfl⟩
        have hnmd : nm.data.toList = x.f.name := by rw [hnm]
        have hsz : nm.size ≤ maxLen := by
          have h3 := HNM.out x hx
          simp only [nameOk, Bool.and_eq_true, decide_eq_true_eq] at h3
          have h4 : nm.size = x.f.name.length := by rw [← hnmd]; exact Array.length_toList.symm
          unfold maxLen
          omega
        have henc : encStr x.f.name = .string nm := by rw [hnm]
        rw [henc] at hen ⊢
        cases ha : d2.at x.f.name with
        | none =>
          have hlk := h25.lookup_none hsz (by rw [hnmd]; exact h25.at_none ha)
          have HX : Hid (¬ L1.map (·.f) = L2.map (·.f)) := Lib.hid (fun he => by
            have h3 : x.f ∈ L2.map (·.f) := by rw [← he]; exact List.mem_map_of_mem hx
            obtain ⟨y, hy, hye⟩ := List.mem_map.1 h3
            exact h25.at_none ha y hy (by rw [hye]))
          clear h15 h25 ha
          go_wp2_with fail
          go_ret
          exact ⟨by rw [HR.out, decide_eq_false HX.out]; rfl, HG5.out⟩
        | some f =>
          obtain ⟨A, y, B, hL, rfl, hyn⟩ := h25.at_some ha
          have hyL : y ∈ L2 := by rw [hL]; simp
          have hlk := h25.lookup_some (x := y) hyL hsz (by rw [hnmd]; exact hyn)
          have HC : Hid (Calls Try.prog 123 #[.pointer (some ⟨x.blk, 0, none⟩), .pointer (some ⟨y.blk, 0, none⟩)] w5 fun e w' => e = .returned (.bool (sameF x.f y.f)) ∧ w5.grownBy w' none) := Lib.hid (same1_b (h15.each x hx) (h25.each y hyL))
          obtain ⟨sb, hsb⟩ : ∃ sb, sameF x.f y.f = sb := ⟨_, rfl⟩
          rw [hsb] at HC
          have HND := Lib.hid h25.nodup
          clear h15 h25 ha hL
          cases sb with
          | false =>
            have HX : Hid (¬ L1.map (·.f) = L2.map (·.f)) := Lib.hid (fun he => by
              have h3 : x.f ∈ L2.map (·.f) := by rw [← he]; exact List.mem_map_of_mem hx
              obtain ⟨z, hz, hze⟩ := List.mem_map.1 h3
              have h4 := eq_of_name HND.out hz hyL (by rw [hze, hyn])
              rw [← h4, hze, sameF_self] at hsb
              cases hsb)
            go_wp2_with (go_at_call 123; refine HC.out.mono ?_; rintro e w6 ⟨rfl, hg6⟩)
            go_ret
            exact ⟨by rw [HR.out, decide_eq_false HX.out]; rfl, HG5.out.andThen hg6 (fun j hj => by cases hj)⟩
          | true =>
            have hxy : x.f = y.f := sameF_eq hsb hyn.symm
            have HF6 : Hid (∀ z ∈ L1, (left (.string z.f.name) && !(Lit.string z.f.name).sameKey (.string x.f.name)) = false → z.f ∈ L2.map (·.f)) := Lib.hid (fun z hz hf => by
              rw [sameKey_str] at hf
              by_cases he : z.f.name = x.f.name
              · have hzx : z = x := eq_of_name H1.out.nodup hz hx he
                rw [hzx, hxy]
                exact List.mem_map_of_mem hyL
              · rw [decide_eq_false he] at hf
                exact HF.out z hz (by simpa using hf))
            go_wp2_with (go_at_call 123; refine HC.out.mono ?_; rintro e w6 ⟨rfl, hg6⟩)
            have hrg6 := hrg5.kept hg6 (by simp) (by simp)
            have HG6 := Lib.hid (HG5.out.andThen hg6 (fun j hj => by cases hj))
            go_roundw
            case rel => exact ⟨_, _, hrg6, HG6, HF6⟩
            case measure => rw [hrg6.left_eq, hrg.left_eq]; exact hlt
  · have hb0 : (((n1 : Nat) : Int) != (n2 : Int)) = true := by simp; omega
    have HX : Hid (¬ L1.map (·.f) = L2.map (·.f)) := Lib.hid (fun he => hn (by
      have := congrArg List.length he
      simp only [List.length_map] at this
      omega))
    clear hn hn1 hn2
    go_enter Try.func122, Try.ntmps122
    go_wp2_with fail
    go_ret
    exact ⟨by rw [HR.out, decide_eq_false HX.out]; rfl, World.grownBy.refl _ _⟩
set_option maxRecDepth 100000 in
set_option maxHeartbeats 1000000 in
theorem same_b {w : World} {S1 S2 : Nat → Prop} {q1 q2 : Nat} {d1 d2 : Dk} (h1 : DiskAt w S1 q1 d1) (h2 : DiskAt w S2 q2 d2) :
    Calls Try.prog 51 #[.pointer (some ⟨q1, 0, none⟩), .pointer (some ⟨q2, 0, none⟩)] w fun e w' => e = .returned (.bool (decide (d1.files = d2.files))) ∧ Below w.heap.size w w' := by
  obtain ⟨m1, fv1, L1, h1⟩ := h1
  obtain ⟨m2, fv2, L2, h2⟩ := h2
  have c1 : w.cell? ⟨q1, 0, none⟩ = some (.map (some m1)) := cell_of h1.head rfl
  have c2 : w.cell? ⟨q2, 0, none⟩ = some (.map (some m2)) := cell_of h2.head rfl
  have H1 := Lib.hid h1
  have H2 := Lib.hid h2
  clear h1 h2
  obtain ⟨b, hb⟩ : ∃ b, decide (d1.files = d2.files) = b := ⟨_, rfl⟩
  have HC : Hid (∀ W : World, (W = w ∨ W = w.drew) → Calls Try.prog 122 #[.map (some m1), .map (some m2), .func (.func 123) #[] #[]] W fun e w' => e = .returned (.bool b) ∧ Below w.heap.size w w') := Lib.hid (fun W hW => by
    have hbl : Below w.heap.size w W := by rcases hW with rfl | rfl <;> exact ⟨rfl, rfl, rfl, Nat.le_refl _, fun _ _ => rfl⟩
    refine (equal_b (H1.out.below hbl) (H2.out.below hbl)).mono ?_
    rintro e w' ⟨rfl, hg⟩
    rw [hb]
    exact ⟨rfl, hbl.trans ((below_grown hg).mono hbl.size)⟩)
  rw [hb]
  clear hb
  go_enter Try.func51, Try.ntmps51
  go_wp2_with fail
  refine (none_b H1.out).mono ?_
  rintro e w' ⟨rfl, rfl⟩
  go_wp2_with fail
  refine (none_b H2.out).mono ?_
  rintro e w' ⟨rfl, rfl⟩
  go_wp2_with fail
  go_upto_region 3 with fail
  go_region_law (first | (go_simp; go_at_call 122; refine (HC.out _ (by first | exact .inl rfl | exact .inr rfl)).mono ?_; rintro e w5 ⟨rfl, hb5⟩; have HB5 := Lib.hid hb5; clear hb5))
  all_goals
    go_wp2_with fail
    go_ret
    exact ⟨rfl, HB5.out⟩
end Go.Proofs.Ytmkjejngnahpeaa
/- Disk: rows that are written; the names of files that are there: looked through. -/
namespace Go.Proofs.Ytmkjejngnahpeaa
open Go Go.Maps Go.RowKit
open Go.Proofs (encStr)

section
variable {w : World} {e : TypeId} {n cap g off : Nat} {xs : List Value}
theorem rowAt.parts (h : rowAt w e 1 (.slice (some ⟨g, off, none⟩) n cap) n xs) : ∃ cur fr, w.heap[g]? = some (.cells cur e fr) ∧ n ≤ cap ∧ cap ≤ maxLen ∧ off + cap ≤ cur.size ∧ freeRow fr cur.size ∧ (cur.toList.drop off).take n = xs := by
  rcases h.2 with ⟨hv, _⟩ | ⟨g', o', c', cur, fr, hv, hg, hn, hm, hs, hf, ht⟩
  · cases hv
  · simp only [Value.slice.injEq, Option.some.injEq, Addr.mk.injEq] at hv
    obtain ⟨⟨rfl, rfl, -⟩, -, rfl⟩ := hv
    exact ⟨cur, fr, hg, hn, hm, by simpa using hs, hf, by simpa using ht⟩
theorem rowAt.mk' {cur : Array Value} {fr : Nat × Nat} (hg : w.heap[g]? = some (.cells cur e fr)) (hn : n ≤ cap) (hm : cap ≤ maxLen) (hs : off + cap ≤ cur.size) (hf : freeRow fr cur.size) (ht : (cur.toList.drop off).take n = xs) : rowAt w e 1 (.slice (some ⟨g, off, none⟩) n cap) n xs := by
  refine ⟨?_, .inr ⟨g, off, cap, cur, fr, rfl, hg, hn, hm, by simpa using hs, hf, by simpa using ht⟩⟩
  rw [← ht, List.length_take, List.length_drop, Array.length_toList]
  omega
theorem rowAt.free (h : rowAt w e 1 (.slice (some ⟨g, off, none⟩) n cap) n xs) {i : Nat} (hi : i < n) : w.frozen? ⟨g, off + i, none⟩ = false := by
  obtain ⟨cur, fr, hg, hn, _, hs, hf, _⟩ := h.parts
  simp only [World.frozen?, hg]
  exact hf _ (by omega)
theorem rowAt.cell1 (h : rowAt w e 1 (.slice (some ⟨g, off, none⟩) n cap) n xs) {i : Nat} {u : Value} (hu : xs[i]? = some u) : w.cell? ⟨g, off + i, none⟩ = some u := by
  have := h.cells (g := g) (off := off) rfl i u hu
  simpa [Go.WideShapes.add_plain] using this
theorem rowAt.set (h : rowAt w e 1 (.slice (some ⟨g, off, none⟩) n cap) n xs) {i : Nat} (u : Value) : rowAt (w.setCell ⟨g, off + i, none⟩ u) e 1 (.slice (some ⟨g, off, none⟩) n cap) n (xs.set i u) := by
  obtain ⟨cur, fr, hg, hn, hm, hs, hf, ht⟩ := h.parts
  refine rowAt.mk' (heap_setCell_here u hg) hn hm (by simpa using hs) (by simpa using hf) ?_
  rw [Array.toList_setIfInBounds, ← ht, List.drop_set, if_neg (by omega), ← List.take_set]
  congr 2
  omega
theorem rowAt.short (h : rowAt w e 1 (.slice (some ⟨g, off, none⟩) n cap) n xs) {i : Nat} (hi : i ≤ n) : rowAt w e 1 (.slice (some ⟨g, off, none⟩) i cap) i (xs.take i) := by
  obtain ⟨cur, fr, hg, hn, hm, hs, hf, ht⟩ := h.parts
  refine rowAt.mk' hg (by omega) hm hs hf ?_
  rw [← ht, List.take_take]
  congr 1
  omega
end
theorem zeroString (W : World) : (zeroValue 9).run Try.prog W = .ok (.string ⟨#[]⟩) W := by kernel_rfl
/-- the row's end is cleared -/
theorem run_clear_at {w : World} {n cap g off : Nat} {xs : List Value} (h : rowAt w 9 1 (.slice (some ⟨g, off, none⟩) n cap) n xs) {i : Nat} (hi : i ≤ n) :
    ∃ w', (Builtin.clear_ #[94] 0 #[.slice (if cap = i then some ⟨g, off, none⟩ else some ⟨g, off + i, none⟩) (n - i) (cap - i)]).run Try.prog w = .ok (.tuple #[]) w' ∧
      rowAt w' 9 1 (.slice (some ⟨g, off, none⟩) i cap) i (xs.take i) ∧ w.grownBy w' (some g) := by
  obtain ⟨cur, fr, hg, hn, hm, hs, hf, ht⟩ := h.parts
  by_cases hin : n = i
  · subst hin
    refine ⟨w, ?_, h.short (Nat.le_refl _), World.grownBy.refl _ _⟩
    rw [Nat.sub_self]
    split <;> simp [Builtin.clear_, run_underlying Try.underlying94]
  · have hne : ¬ cap = i := by omega
    rw [if_neg hne]
    obtain ⟨m, hmm⟩ : ∃ m, n - i = m + 1 := ⟨n - i - 1, by omega⟩
    rw [hmm]
    have hz := zeroString
    have hfit : off + i + (List.replicate (m + 1) (Value.string ⟨#[]⟩)).length ≤ cur.size := by rw [List.length_replicate]; omega
    have hst := run_storeCells_fr Try.prog g (off + i) 9 fr (List.replicate (m + 1) (Value.string ⟨#[]⟩)) 0 cur w hg hf (by simpa using hfit) (fun v hv => by rw [List.eq_of_mem_replicate hv]; rfl)
    simp only [Nat.add_zero] at hst
    obtain ⟨C, hC⟩ : ∃ C, C = (cur.toList.take (off + i) ++ List.replicate (m + 1) (Value.string ⟨#[]⟩) ++ cur.toList.drop (off + i + (List.replicate (m + 1) (Value.string ⟨#[]⟩)).length)).toArray := ⟨_, rfl⟩
    rw [← hC] at hst
    have hCs : C.size = cur.size := by
      rw [hC]
      simp only [List.size_toArray, List.length_append, List.length_take, List.length_drop, Array.length_toList]
      omega
    have hzc : (Builtin.zeroCells (Value.string ⟨#[]⟩).cells (m + 1)).toList = List.replicate (m + 1) (Value.string ⟨#[]⟩) := by
      show (Builtin.zeroCells #[Value.string ⟨#[]⟩] (m + 1)).toList = _
      simp only [Builtin.zeroCells]
      apply List.ext_getElem
      · simp
      · intro i h1 h2
        simp [Nat.mod_one]
    refine ⟨w.setRow g C, ?_, rowAt.mk' (setRow_heap w g cur C _ fr hg) (by omega) hm (by rw [hCs]; exact hs) (by rw [hCs]; exact hf) ?_, ⟨rfl, rfl, rfl, by simp, fun k _ hk => setRow_other w g k _ (fun e => hk (by simp [e]))⟩⟩
    · simp [Builtin.clear_, run_underlying Try.underlying94, hz, hzc, hst]
    · rw [hC, ← ht]
      simp only [List.append_assoc]
      rw [List.drop_append_of_le_length (by rw [List.length_take, Array.length_toList]; omega), List.take_append_of_le_length (by rw [List.length_drop, List.length_take, Array.length_toList]; omega), List.drop_take, List.take_take, List.take_take]
      congr 1
      omega
set_option maxHeartbeats 400000 in
theorem name1_b {w : World} {S : Nat → Prop} {q mb : Nat} {fv : Value} {L : List Fl} {d : Dk} (h : DiskIs w S q mb fv L d) {x : Fl} (hx : x ∈ L) {b : Nat} (hb : w.cell? ⟨b, 0, none⟩ = some (.pointer (some ⟨q, 0, none⟩))) :
    Calls Try.prog 126 #[encStr x.f.name, .pointer (some ⟨b, 0, none⟩)] w fun e w' => e = .returned (.bool (!x.f.there)) ∧ w' = w := by
  obtain ⟨nm, hnm⟩ : ∃ nm : ByteArray, nm = ⟨x.f.name.toArray⟩ := ⟨_, rfl⟩
  have hnmd : nm.data.toList = x.f.name := by rw [hnm]
  have hsz : nm.size ≤ maxLen := by
    have h3 := h.names x.f (by rw [← h.files]; exact List.mem_map_of_mem hx)
    simp only [nameOk, Bool.and_eq_true, decide_eq_true_eq] at h3
    have h4 : nm.size = x.f.name.length := by rw [← hnmd]; exact Array.length_toList.symm
    unfold maxLen
    omega
  have henc : encStr x.f.name = .string nm := by rw [hnm]
  rw [henc]
  have hlk := h.lookup1_some hx hsz hnmd.symm
  have c0 : w.cell? ⟨q, 0, none⟩ = some (.map (some mb)) := cell_of h.head rfl
  obtain ⟨th, hth⟩ : ∃ th, x.f.there = th := ⟨_, rfl⟩
  have c2 : w.cell? ⟨x.blk, 2, none⟩ = some (.bool th) := by rw [← hth]; exact cell_of (h.each x hx).cells rfl
  rw [hth]
  clear h hnm hnmd hsz henc hth
  go_enter Try.func126, Try.ntmps126
  go_wp2_with fail
  go_ret
  exact ⟨rfl, rfl⟩
end Go.Proofs.Ytmkjejngnahpeaa
/- Disk: Names. -/
namespace Go.Proofs.Ytmkjejngnahpeaa
open Go Go.Maps Go.RowKit
open Go.Proofs (encStr)

def encN (L : List Fl) : List Value := L.map fun x => encStr x.f.name
def AllThere (L : List Fl) : Prop := ∀ x ∈ L, x.f.there = true
theorem AllThere.snoc {L : List Fl} {k : Nat} (h : k < L.length) (ha : AllThere (L.take k)) (hc : L[k].f.there = true) : AllThere (L.take (k + 1)) := by
  intro x hx
  rw [List.take_succ_eq_append_getElem h, List.mem_append, List.mem_singleton] at hx
  rcases hx with hx | rfl
  · exact ha x hx
  · exact hc
set_option maxRecDepth 100000 in
set_option maxHeartbeats 400000 in
theorem indexGone_b {w : World} {S : Nat → Prop} {q mb : Nat} {fv : Value} {L : List Fl} {d : Dk} (h : DiskIs w S q mb fv L d) {b : Nat} (hb : w.cell? ⟨b, 0, none⟩ = some (.pointer (some ⟨q, 0, none⟩)))
    {oa : Option Addr} {n c : Nat} (hn : L.length = n) (hr : rowAt w 9 1 (.slice oa n c) n (encN L)) (hm : n ≤ 1000000000) :
    Calls Try.prog 164 #[.slice oa n c, .func (.func 126) #[] #[.pointer (some ⟨b, 0, none⟩)]] w fun e w' => ∃ i : Int, e = .returned (.int .i64 i) ∧ ((i = -1 ∧ AllThere L) ∨ ∃ k : Nat, ∃ h : k < L.length, i = (k : Int) ∧ AllThere (L.take k) ∧ L[k].f.there = false) ∧ w' = w := by
  have H := Lib.hid h
  have HR := Lib.hid hr
  have HB := Lib.hid hb
  clear h hr hb
  go_enter Try.func164, Try.ntmps164
  go_wp2_with fail
  go_loop [8] (fun i => ∃ k : Nat, k ≤ n ∧ i = .int .i64 k ∧ AllThere (L.take k)) (fun i => n - (intOf i).toNat)
  case atStart => exact ⟨0, Nat.zero_le _, rfl, fun x hx => by simp at hx⟩
  case round =>
    obtain ⟨k, hk, rfl, hge⟩ := hrel
    by_cases hlt : k < n
    · obtain ⟨g, off, rfl⟩ := HR.out.addr (by omega)
      have hkL : k < L.length := by omega
      obtain ⟨x, hx⟩ : ∃ x, L[k] = x := ⟨_, rfl⟩
      have hxm : x ∈ L := by rw [← hx]; exact List.getElem_mem _
      have hcx : w.cell? ⟨g, off + k, none⟩ = some (encStr x.f.name) := HR.out.cell1 (by simp [encN, hkL, hx])
      have HXM := Lib.hid hxm
      obtain ⟨th, hth⟩ : ∃ th, x.f.there = th := ⟨_, rfl⟩
      have HC : Hid (Calls Try.prog 126 #[encStr x.f.name, .pointer (some ⟨b, 0, none⟩)] w fun e w' => e = .returned (.bool (!th)) ∧ w' = w) := Lib.hid (by rw [← hth]; exact name1_b H.out hxm HB.out)
      obtain ⟨sv, hsv⟩ : ∃ sv : ByteArray, encStr x.f.name = .string sv := ⟨_, rfl⟩
      rw [hsv] at hcx HC
      cases th
      · have HX : Hid (∃ h : k < L.length, AllThere (L.take k) ∧ L[k].f.there = false) := Lib.hid ⟨hkL, hge, by rw [hx]; exact hth⟩
        clear hge hx hxm hth hsv
        go_wp2_with (go_at_call 126; refine HC.out.mono ?_; rintro e w' ⟨rfl, rfl⟩)
        go_ret
        exact ⟨_, rfl, .inr ⟨k, HX.out.1, rfl, HX.out.2⟩, rfl⟩
      · have HX : Hid (AllThere (L.take (k + 1))) := Lib.hid (AllThere.snoc hkL hge (by rw [hx]; exact hth))
        clear hge hx hxm hth hsv
        go_wp2_with (go_at_call 126; refine HC.out.mono ?_; rintro e w' ⟨rfl, rfl⟩)
        exact ⟨⟨k + 1, by omega, by simp, HX.out⟩, by simp [intOf]; omega⟩
    · obtain rfl : k = n := by omega
      have HA : Hid (AllThere L) := Lib.hid (by rwa [List.take_of_length_le (by omega)] at hge)
      clear hge
      go_wp2_with fail
      go_ret
      exact ⟨_, rfl, .inl ⟨rfl, HA.out⟩, rfl⟩
/-- the row while the names are parted: the first k are those kept of the first m -/
structure Parted (L : List Fl) (m k : Nat) (xs : List Value) : Prop where
  len : xs.length = L.length
  kept : xs.take k = encN ((L.take m).filter (·.f.there))
  k : k = ((L.take m).filter (·.f.there)).length
  rest : ∀ j, m ≤ j → xs[j]? = (encN L)[j]?
theorem Parted.start {L : List Fl} {k : Nat} (hk : k < L.length) (ha : AllThere (L.take k)) (hc : L[k].f.there = false) : Parted L (k + 1) k (encN L) := by
  have e : (L.take (k + 1)).filter (·.f.there) = L.take k := by
    rw [List.take_succ_eq_append_getElem hk, List.filter_append, List.filter_eq_self.2 (fun x hx => ha x hx)]
    simp [hc]
  exact ⟨by simp [encN], by rw [e]; simp [encN, List.map_take], by rw [e, List.length_take]; omega, fun _ _ => rfl⟩
theorem Parted.skip {L : List Fl} {m k : Nat} {xs : List Value} (h : Parted L m k xs) (hm : m < L.length) (hc : L[m].f.there = false) : Parted L (m + 1) k xs := by
  have e : (L.take (m + 1)).filter (·.f.there) = (L.take m).filter (·.f.there) := by
    rw [List.take_succ_eq_append_getElem hm, List.filter_append]
    simp [hc]
  exact ⟨h.len, by rw [e]; exact h.kept, by rw [e]; exact h.k, fun j hj => h.rest j (by omega)⟩
theorem Parted.lt {L : List Fl} {m k : Nat} {xs : List Value} (h : Parted L m k xs) : k ≤ m := by
  have h1 := h.k
  have h2 := List.length_filter_le (fun x : Fl => x.f.there) (L.take m)
  rw [List.length_take] at h2
  omega
theorem Parted.keep {L : List Fl} {m k : Nat} {xs : List Value} (h : Parted L m k xs) (hm : m < L.length) (hc : L[m].f.there = true) : Parted L (m + 1) (k + 1) (xs.set k (encStr L[m].f.name)) := by
  have e : (L.take (m + 1)).filter (·.f.there) = (L.take m).filter (·.f.there) ++ [L[m]] := by
    rw [List.take_succ_eq_append_getElem hm, List.filter_append]
    simp [hc]
  have hkm := h.lt
  have hkx : k < xs.length := by rw [h.len]; omega
  refine ⟨by simp [h.len], ?_, by rw [e, List.length_append, ← h.k]; rfl, fun j hj => ?_⟩
  · rw [e, List.take_succ_eq_append_getElem (by simpa using hkx)]
    simp only [List.getElem_set_self, List.take_set_of_le (Nat.le_refl k)]
    rw [h.kept]
    simp [encN]
  · rw [List.getElem?_set_ne (by omega)]
    exact h.rest j (by omega)
theorem take_run {oa : Option Addr} {n c : Nat} (i : Nat) (hi : i ≤ c) (h0 : oa.map (fun x => x.add 0) = oa) (W : World) : (Instr.slice 94 (.slice oa n c) none (some (.int .i64 (i : Int))) none).run Try.prog W = .ok (.slice oa i c) W := by
  have hs : (sizeOf 9).run Try.prog W = .ok 1 W := by kernel_rfl
  have he : Try.prog.elem 94 = 9 := by kernel_rfl
  rw [run_slice_h (P := Try.prog) (w := W) 94 oa n c (by rw [he]; exact Try.underlying94) .i64 i (by omega) (by omega), he, hs]
  simp [Result.andThen, sliced, h0]
theorem drop_run (g off n c i : Nat) (hi : i ≤ n) (W : World) : (Instr.slice 94 (.slice (some ⟨g, off, none⟩) n c) (some (.int .i64 (i : Int))) none none).run Try.prog W = .ok (.slice (if c = i then some ⟨g, off, none⟩ else some ⟨g, off + i, none⟩) (n - i) (c - i)) W := by
  have hs : (sizeOf 9).run Try.prog W = .ok 1 W := by kernel_rfl
  have he : Try.prog.elem 94 = 9 := by kernel_rfl
  rw [run_slice_l (P := Try.prog) (w := W) 94 (some ⟨g, off, none⟩) n c (by rw [he]; exact Try.underlying94) .i64 i (by omega) (by omega), he, hs]
  simp [Result.andThen, sliced, Go.WideShapes.add_plain]
end Go.Proofs.Ytmkjejngnahpeaa
/- Disk: Names, the walk. -/
namespace Go.Proofs.Ytmkjejngnahpeaa
open Go Go.Maps Go.RowKit
open Go.Proofs (encStr)

theorem encN_take_filter {L : List Fl} {m k : Nat} {xs : List Value} (h : Parted L m k xs) (hm : L.length ≤ m) : xs.take k = encN (L.filter (·.f.there)) ∧ k = (L.filter (·.f.there)).length := by
  have h1 := h.kept
  have h2 := h.k
  rw [List.take_of_length_le hm] at h1 h2
  exact ⟨h1, h2⟩
set_option maxRecDepth 100000 in
set_option maxHeartbeats 1000000 in
theorem deleteGone_b {w : World} {S : Nat → Prop} {q mb : Nat} {fv : Value} {L : List Fl} {d : Dk} (h : DiskIs w S q mb fv L d) {b : Nat} (hb : w.cell? ⟨b, 0, none⟩ = some (.pointer (some ⟨q, 0, none⟩)))
    {v : Value} {n : Nat} (hn : L.length = n) (hr : rowAt w 9 1 v n (encN L)) (hm : n ≤ 1000000000) (hv : ∀ k, v.ownBlock = some k → ¬ S k ∧ k ≠ b) :
    Calls Try.prog 125 #[v, .func (.func 126) #[] #[.pointer (some ⟨b, 0, none⟩)]] w fun e w' => ∃ v', e = .returned v' ∧ rowAt w' 9 1 v' (L.filter (·.f.there)).length (encN (L.filter (·.f.there))) ∧ v'.ownBlock = v.ownBlock ∧ w.grownBy w' v.ownBlock := by
  obtain ⟨oa, c, rfl, hnc⟩ := hr.shape
  have H := Lib.hid h
  have HR := Lib.hid hr
  have HB := Lib.hid hb
  have HV := Lib.hid hv
  have HN := Lib.hid hn
  have hbl : b < w.heap.size := World.block_lt_of_cell? w _ hb
  have hm0 := hr.map0.1
  clear h hr hb hv hn
  go_enter Try.func125, Try.ntmps125
  go_wp2_with fail
  refine (indexGone_b H.out HB.out HN.out HR.out hm).mono ?_
  rintro e w' ⟨i, rfl, hi, rfl⟩
  rcases hi with ⟨rfl, ha⟩ | ⟨k, hk, rfl, ha, hc⟩
  · have e : L.filter (·.f.there) = L := List.filter_eq_self.2 ha
    have HE := Lib.hid e
    clear ha e
    go_wp2_with fail
    go_ret
    exact ⟨_, rfl, by rw [HE.out, HN.out]; exact HR.out, rfl, World.grownBy.refl _ _⟩
  · have hkn : k < n := by rw [← HN.out]; exact hk
    obtain ⟨g, off, rfl⟩ := HR.out.addr (by omega)
    have hgS := HV.out g rfl
    have hgl : g < w'.heap.size := HR.out.lt g rfl
    have HP := Lib.hid (Parted.start hk ha hc)
    have hk1 : ¬ ((k : Int) = -1) := by omega
    have hk2 : (((k : Nat) : Int) == -1) = false := by simp
    clear ha hc hk
    go_wp2_with fail
    go_loopw [5, 6] (fun i j wr => ∃ (m k : Nat) (xs : List Value), i = .int .i64 k ∧ j = .int .i64 m ∧ m ≤ n ∧ k < m ∧ Hid (Parted L m k xs) ∧ Hid (rowAt wr 9 1 (.slice (some ⟨g, off, none⟩) n c) n xs) ∧ Hid (Only (fun x => x = g) w' wr))
      (fun i j wr => n - (intOf j).toNat)
    case atStart => exact ⟨k + 1, k, _, rfl, by simp, by omega, by omega, HP, HR, Lib.hid (Only.refl _ _)⟩
    case round =>
      obtain ⟨m, k', xs, rfl, rfl, hmn, hkm, HPA, HRO, HO⟩ := hrel
      by_cases hlt : m < n
      · have hmL : m < L.length := by rw [HN.out]; exact hlt
        obtain ⟨x, hx⟩ : ∃ x, L[m] = x := ⟨_, rfl⟩
        have hxm : x ∈ L := by rw [← hx]; exact List.getElem_mem _
        have hcx : wr.cell? ⟨g, off + m, none⟩ = some (encStr x.f.name) := HRO.out.cell1 (by rw [HPA.out.rest m (Nat.le_refl _)]; simp [encN, hmL, hx])
        have hkx : k' < xs.length := by rw [HPA.out.len]; omega
        have hck : wr.cell? ⟨g, off + k', none⟩ = some (xs[k']) := HRO.out.cell1 (by simp [hkx])
        have hfk : wr.frozen? ⟨g, off + k', none⟩ = false := HRO.out.free (by omega)
        obtain ⟨th, hth⟩ : ∃ th, x.f.there = th := ⟨_, rfl⟩
        have hdw := H.out.only HO.out (fun j hj he => hgS.1 (he ▸ hj))
        have hbw : wr.cell? ⟨b, 0, none⟩ = some (.pointer (some ⟨q, 0, none⟩)) := by rw [← HB.out]; exact cell_kept_at (HO.out.block b hbl (fun he => hgS.2 he.symm))
        have HC : Hid (Calls Try.prog 126 #[encStr x.f.name, .pointer (some ⟨b, 0, none⟩)] wr fun e w' => e = .returned (.bool (!th)) ∧ w' = wr) := Lib.hid (by rw [← hth]; exact name1_b hdw hxm hbw)
        have HXE : Hid (L[m].f.there = th ∧ encStr L[m].f.name = encStr x.f.name) := Lib.hid ⟨by rw [hx]; exact hth, by rw [hx]⟩
        obtain ⟨sv, hsv⟩ : ∃ sv : ByteArray, encStr x.f.name = .string sv := ⟨_, rfl⟩
        rw [hsv] at hcx HC HXE
        clear hx hxm hth hdw hbw hsv
        cases th
        · have HPN := Lib.hid (HPA.out.skip hmL HXE.out.1)
          go_wp2_with (go_at_call 126; refine HC.out.mono ?_; rintro e w' ⟨rfl, rfl⟩)
          exact ⟨⟨m + 1, k', xs, rfl, by simp, by omega, by omega, HPN, HRO, HO⟩, by simp [intOf]; omega⟩
        · have HPN := Lib.hid (HPA.out.keep hmL HXE.out.1)
          have HRN : Hid (rowAt (wr.setCell ⟨g, off + k', none⟩ (.string sv)) 9 1 (.slice (some ⟨g, off, none⟩) n c) n (xs.set k' (encStr L[m].f.name))) := Lib.hid (by rw [HXE.out.2]; exact HRO.out.set _)
          have HON : Hid (Only (fun x => x = g) w' (wr.setCell ⟨g, off + k', none⟩ (.string sv))) := Lib.hid (HO.out.trans (only_setCell (fun x => x = g) _ _ _ _ rfl) (fun _ _ h => h))
          go_wp2_with (go_at_call 126; refine HC.out.mono ?_; rintro e w' ⟨rfl, rfl⟩)
          exact ⟨⟨m + 1, k' + 1, _, by simp, by simp, by omega, by omega, HPN, HRN, HON⟩, by simp [intOf]; omega⟩
      · obtain rfl : m = n := by omega
        obtain ⟨w9, hclr, hr9, hg9⟩ := run_clear_at HRO.out (i := k') (by omega)
        obtain ⟨hx1, hx2⟩ := encN_take_filter HPA.out (by rw [HN.out]; exact Nat.le_refl _)
        have hdrop := fun W => drop_run g off m c k' (by omega) W
        rw [if_neg (show ¬ c = k' by omega)] at hclr
        simp only [if_neg (show ¬ c = k' by omega)] at hdrop
        have htake := fun W => take_run (oa := some ⟨g, off, none⟩) (n := m) (c := c) k' (by omega) rfl W
        have HX : Hid (rowAt w9 9 1 (.slice (some ⟨g, off, none⟩) k' c) k' (encN (L.filter (·.f.there))) ∧ k' = (L.filter (·.f.there)).length) := Lib.hid ⟨by rw [← hx1]; exact hr9, hx2⟩
        have HG9 : Hid (w'.grownBy w9 (some g)) := Lib.hid ((Only.grown HO.out (fun k _ hk => by rw [hk])).andThen hg9 (fun j hj => by cases hj; exact Or.inr rfl))
        clear hx1 hx2 hr9 hg9
        go_wp2_with fail
        go_ret
        exact ⟨_, rfl, by rw [← HX.out.2]; exact HX.out.1, rfl, HG9.out⟩
end Go.Proofs.Ytmkjejngnahpeaa
/- Disk: Names. -/
namespace Go.Proofs.Ytmkjejngnahpeaa
open Go Go.Maps Go.RowKit
open Go.Proofs (encStr)

/-- the names of the files that are there -/
def Dk.names (d : Dk) : List (List UInt8) := (d.files.filter (·.there)).map (·.name)
theorem encN_names {L : List Fl} {d : Dk} (h : L.map (·.f) = d.files) : encN (L.filter (·.f.there)) = d.names.map encStr ∧ (L.filter (·.f.there)).length = d.names.length := by
  have e : d.names = (L.filter (·.f.there)).map (·.f.name) := by
    unfold Dk.names
    rw [← h, List.filter_map, List.map_map]
    rfl
  rw [e]
  exact ⟨by simp [encN, List.map_map, Function.comp_def], by simp⟩
set_option maxRecDepth 100000 in
set_option maxHeartbeats 1000000 in
theorem Names_b {w : World} {S : Nat → Prop} {q : Nat} {d : Dk} (h : DiskAt w S q d) :
    Calls Try.prog 52 #[.pointer (some ⟨q, 0, none⟩)] w fun e w' => ∃ v, e = .returned v ∧ rowAt w' 9 1 v d.names.length (d.names.map encStr) ∧ (∀ k, v.ownBlock = some k → w.heap.size ≤ k) ∧ Below w.heap.size w w' := by
  obtain ⟨mb, fv, L, h⟩ := h
  obtain ⟨hE1, hE2⟩ := encN_names h.files
  have HE := Lib.hid (And.intro hE1 hE2)
  have hlen : L.length ≤ 4096 := by
    have h1 := h.few
    rw [← h.files, List.length_map] at h1
    exact h1
  have HLN := Lib.hid hlen
  clear hE1 hE2 hlen
  go_enter Try.func52, Try.ntmps52
  go_upto_region 1 with fail
  obtain ⟨w1, hw1⟩ : ∃ w1 : World, w1 = w.alloc (.cells #[.pointer (some ⟨q, 0, none⟩)] 37) := ⟨_, rfl⟩
  obtain ⟨b, hb⟩ : ∃ b, b = w.heap.size := ⟨_, rfl⟩
  have hc1 : w1.heap[b]? = some (.cells #[.pointer (some ⟨q, 0, none⟩)] 37 (0, 0)) := by rw [hw1, hb]; exact alloc_cells _ _ _
  have hb1 : Below w.heap.size w w1 := by rw [hw1]; exact (Below.refl _ _).alloc (Nat.le_refl _) _
  rw [← hb, ← hw1]
  have HB1 := Lib.hid hb1
  have H1 := Lib.hid (h.below hb1)
  have HBB := Lib.hid hb
  clear hw1 hb hb1 h
  have c0 : w1.cell? ⟨b, 0, none⟩ = some (.pointer (some ⟨q, 0, none⟩)) := cell_of hc1 rfl
  have HC1 := Lib.hid hc1
  clear hc1
  go_wp2_with fail
  refine (names_b H1.out).mono ?_
  rintro e w2 ⟨v, rfl, hrow, hnil, hb2⟩
  have hr2 := rowAt.of_row (hasRow.of_own hrow)
  have hlow := (hasRow.of_own hrow).lt
  have hbl : b < w1.heap.size := (Array.getElem?_eq_some_iff.1 HC1.out).1
  have hc2 : w2.cell? ⟨b, 0, none⟩ = some (.pointer (some ⟨q, 0, none⟩)) := cell_of ((hb2.block b hbl).trans HC1.out) rfl
  have HD : Hid (Calls Try.prog 125 #[v, .func (.func 126) #[] #[.pointer (some ⟨b, 0, none⟩)]] w2 fun e w' => ∃ v', e = .returned v' ∧ rowAt w' 9 1 v' (L.filter (·.f.there)).length (encN (L.filter (·.f.there))) ∧ v'.ownBlock = v.ownBlock ∧ w2.grownBy w' v.ownBlock) := Lib.hid
    (deleteGone_b (H1.out.below hb2) hc2 rfl hr2 (by have := HLN.out; omega) (fun k hk => ⟨fun hs => by
      have h1 := H1.out.low k hs
      have h2 := (hlow k hk).1
      omega, fun e => by have h2 := (hlow k hk).1; omega⟩))
  have HB2 : Hid (Below w.heap.size w w2 ∧ w1.heap.size ≤ w2.heap.size) := Lib.hid ⟨HB1.out.trans (hb2.mono HB1.out.size), hb2.size⟩
  have HLOW := Lib.hid hlow
  clear hrow hnil hb2 hr2 hlow hc2 c0 hbl
  go_wp2_with fail
  refine HD.out.mono ?_
  rintro e w3 ⟨v', rfl, hr3, hv3, hg3⟩
  have hb3 : Below w.heap.size w w3 := HB2.out.1.grown hg3 HB2.out.1.size (fun k hk => by
    have h1 := (HLOW.out k hk).1
    have h2 := HB1.out.size
    omega)
  have HR : Hid (rowAt w3 9 1 v' d.names.length (d.names.map encStr)) := Lib.hid (by rw [← HE.out.1, ← HE.out.2]; exact hr3)
  have HV : Hid (∀ k, v'.ownBlock = some k → w.heap.size ≤ k) := Lib.hid (fun k hk => by
    rw [hv3] at hk
    have h1 := (HLOW.out k hk).1
    have h2 := HB1.out.size
    omega)
  have HB3 := Lib.hid hb3
  clear hr3 hv3 hg3 hb3
  go_wp2_with fail
  go_ret
  exact ⟨_, rfl, HR.out, HV.out, HB3.out⟩
end Go.Proofs.Ytmkjejngnahpeaa
