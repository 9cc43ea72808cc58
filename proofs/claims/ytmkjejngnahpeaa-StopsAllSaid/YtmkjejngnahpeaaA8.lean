/- The texts Ig, Em, En, Eo, Ep in one. -/
import Derived.Test.YtmkjejngnahpeaaA7
import Derived.Test.YtmkjejngnahpeaaA5
/- The document's disk: Create. -/
namespace Go.Proofs.Ytmkjejngnahpeaa
open Go Go.Maps Go.RowKit
open Go.Proofs (encStr)

theorem create_sizes {l : List F0} {s : List UInt8} (h : ∀ f ∈ l, f.lasts ≤ f.bytes.length ∧ f.bytes.length ≤ 16777216) : ∀ f ∈ insF ⟨s, [], 0, true, false⟩ l, f.lasts ≤ f.bytes.length ∧ f.bytes.length ≤ 16777216 := fun f hf => by
  rcases (mem_insF _ f l).1 hf with rfl | hf
  · exact ⟨Nat.le_refl _, by show (0 : Nat) ≤ _; omega⟩
  · exact h f hf
theorem create_names {l : List F0} {s : List UInt8} (hs : nameOk s = true) (h : ∀ f ∈ l, nameOk f.name = true) : ∀ f ∈ insF ⟨s, [], 0, true, false⟩ l, nameOk f.name = true := fun f hf => by
  rcases (mem_insF _ f l).1 hf with rfl | hf
  · exact hs
  · exact h f hf
set_option maxRecDepth 100000 in
set_option maxHeartbeats 2000000 in
theorem refCreate_b {w : World} {S : Nat → Prop} {p : Nat} {d : Dk} (h : RfAt w S p d) (nm : ByteArray) (hs : nm.size ≤ maxLen) :
    Calls Try.prog 55 #[.pointer (some ⟨p, 0, none⟩), .string nm] w fun e w' => ROpIs w S p (d.create nm.data.toList) e w' := by
  obtain ⟨rv, fv, h⟩ := h
  obtain ⟨s, hss⟩ : ∃ s, nm.data.toList = s := ⟨_, rfl⟩
  have H := Lib.hid h
  have HSS := Lib.hid hss
  clear h
  go_enter Try.func55, Try.ntmps55
  go_wp2_with fail
  refine (refNamed_any nm _ hs).mono ?_
  rintro e w' ⟨rfl, hw'⟩
  obtain rfl := hw'.symm
  rw [hss]
  clear hss
  cases hn : nameOk s with
  | false =>
    have HE : Hid (ROpIs w S p (d.create s) (.returned (.int .i64 2)) w) := Lib.hid (by
      rw [show d.create s = (2, d) by simp [Dk.create, hn]]
      exact rop_same H.out (Only.refl _ _) rfl)
    clear hn
    go_wp2_with fail
    go_ret
    rw [HSS.out]
    exact HE.out
  | true =>
    have HNK := Lib.hid hn
    clear hn
    go_wp2_with fail
    refine (refAt_b H.out nm).mono ?_
    rintro e w1 ⟨hp, hw1⟩
    obtain rfl := hw1.symm
    rw [HSS.out] at hp
    rcases hp with ⟨ha, rfl⟩ | ⟨i, hi, hxn, ha, rfl⟩
    case inr =>
      have HE : Hid (ROpIs w S p (d.create s) (.returned (.int .i64 170)) w) := Lib.hid (by
        rw [show d.create s = (170, d) by simp [Dk.create, HNK.out, ha]]
        exact rop_same H.out (Only.refl _ _) rfl)
      have hd : decide ((0 : Int) ≤ (i : Int)) = true := decide_eq_true (by omega)
      clear ha hxn
      go_wp2_with fail
      go_ret
      rw [HSS.out]
      exact HE.out
    obtain ⟨oa, c, rfl, hnc⟩ := H.out.files.shape
    obtain ⟨N, hN⟩ : ∃ N, d.files.length = N := ⟨_, rfl⟩
    have hN4 : N ≤ 4096 := by rw [← hN]; exact H.out.few
    have c0 : w.cell? ⟨p, 0, none⟩ = some (.slice oa N c) := cell_of H.out.head (by rw [← hN]; rfl)
    have HAT := Lib.hid (And.intro ha hN)
    rw [hN] at hnc
    clear ha hN
    by_cases hfew : 4096 ≤ N
    · have HE : Hid (ROpIs w S p (d.create s) (.returned (.int .i64 6)) w) := Lib.hid (by
        rw [show d.create s = (6, d) by
          unfold Dk.create
          rw [if_neg (by rw [HNK.out]; simp), if_neg (by rw [HAT.out.1]; simp), if_pos (by rw [HAT.out.2]; exact hfew)]]
        exact rop_same H.out (Only.refl _ _) rfl)
      have hd : decide ((4096 : Int) ≤ (N : Int)) = true := decide_eq_true (by omega)
      go_wp2_with fail
      go_ret
      rw [HSS.out]
      exact HE.out
    have hd : decide ((4096 : Int) ≤ (N : Int)) = false := decide_eq_false (by omega)
    go_wp2_with fail
    refine (refStep_b H.out).mono ?_
    rintro e w2 ⟨kp, fv2, rfl, -, h2, ho2⟩
    clear hd c0
    obtain ⟨er, her⟩ : ∃ n, d.fate.1 = n := ⟨_, rfl⟩
    rw [her]
    by_cases h0 : er = 0
    case neg =>
      have hne : (er != 0) = true := by simpa using h0
      have HE : Hid (ROpIs w S p (d.create s) (.returned (.int .i64 er)) w2) := Lib.hid (by
        rw [show d.create s = (er, d.next) by
          unfold Dk.create
          rw [if_neg (by rw [HNK.out]; simp), if_neg (by rw [HAT.out.1]; simp), if_neg (by rw [HAT.out.2]; exact hfew), if_pos (by rw [her]; exact h0), her]]
        exact rop_same h2 (only_p ho2 H.out.footp) rfl)
      clear h2 ho2 her
      go_wp2_with fail
      go_ret
      rw [HSS.out]
      exact HE.out
    subst h0
    have hfl : d.next.files = d.files := rfl
    have hrow := h2.files
    rw [hfl, HAT.out.2] at hrow
    have hh2 := h2.head
    rw [HAT.out.2] at hh2
    have hplt : p < w2.heap.size := h2.low p h2.footp
    have c0 : w2.cell? ⟨p, 0, none⟩ = some (.slice oa N c) := cell_of hh2 rfl
    have HH2 := Lib.hid (And.intro hh2 hrow)
    have HD : Hid (∀ (j : Nat) (w5 : World) (v' : Value), j ≤ N → (∀ f ∈ d.files.take j, f.name < s) → (∀ h : j < d.files.length, ¬ d.files[j].name < s) → NewRow w2 w5 v' (d.files.take j ++ ⟨s, [], 0, true, false⟩ :: d.files.drop j) → ROpIs w S p (d.create s) (.returned (.int .i64 0)) (w5.setCell ⟨p, 0, none⟩ v')) := Lib.hid (fun j w5 v' hj h1 h3 hr => by
      have hno : ∀ g ∈ d.files, g.name ≠ s := fun g hg he => by
        have := List.find?_eq_none.1 HAT.out.1 g hg
        simp [he] at this
      have hins := insF_at (⟨s, [], 0, true, false⟩ : F0) d.files j (by rw [HAT.out.2]; exact hj) h1 h3
      rw [← hins] at hr
      have hde : d.create s = (0, { d.next with files := insF ⟨s, [], 0, true, false⟩ d.files }) := by
        unfold Dk.create
        rw [if_neg (by rw [HNK.out]; simp), if_neg (by rw [HAT.out.1]; simp), if_neg (by rw [HAT.out.2]; exact hfew), if_neg (by rw [her]; simp)]
      rw [hde]
      exact rf_store h2 ho2 hr (insF_sorted _ _ h2.sorted (by exact hno)) (create_names HNK.out h2.names) (create_sizes h2.sizes) (by rw [insF_length, HAT.out.2]; omega) 0)
    clear h2 ho2 her hrow hh2 hfl hfew
    have HFX : Hid (rfCells [⟨s, [], 0, true, false⟩] = [.string nm, .string ⟨#[]⟩, .int .i64 0, .bool true, .bool false]) := Lib.hid (by rw [← HSS.out]; rfl)
    go_wp2_with fail
    go_loop [9] (fun i => ∃ j : Nat, j ≤ N ∧ i = .int .i64 j ∧ Hid (∀ f ∈ d.files.take j, f.name < s)) (fun i => N - (intOf i).toNat)
    case atStart => exact ⟨0, Nat.zero_le _, rfl, Lib.hid (by simp)⟩
    case round =>
      obtain ⟨j, hj, rfl, HA⟩ := hrel
      by_cases hlt : j < N
      · have hjf : j < d.files.length := by rw [HAT.out.2]; exact hlt
        obtain ⟨g, off, rfl⟩ := HH2.out.2.addr (by omega)
        obtain ⟨x, hx⟩ : ∃ x, d.files[j] = x := ⟨_, rfl⟩
        obtain ⟨xn, hxn⟩ : ∃ a : ByteArray, a = ⟨x.name.toArray⟩ := ⟨_, rfl⟩
        have k0 : w2.cell? ⟨g, off + j * 5, none⟩ = some (.string xn) := rf_cell (i := 0) HH2.out.2 hjf (by omega) (by rw [hx, hxn]; rfl)
        by_cases hn : x.name < s
        · have hl : Op.bytesLess xn.toList nm.toList = true := str_less (decide_eq_true (by rw [hxn, HSS.out]; exact hn))
          have HA2 : Hid (∀ f ∈ d.files.take (j + 1), f.name < s) := Lib.hid (fun f hf => by
            rw [List.take_succ_eq_append_getElem hjf] at hf
            rcases List.mem_append.1 hf with h1 | h1
            · exact HA.out f h1
            · rw [List.mem_singleton] at h1
              rw [h1, hx]; exact hn)
          clear hx hxn hn
          go_wp2_with fail
          exact ⟨⟨j + 1, by omega, by simp, HA2⟩, by simp [intOf]; omega⟩
        · have hl : Op.bytesLess xn.toList nm.toList = false := str_less (decide_eq_false (by rw [hxn, HSS.out]; exact hn))
          have HB : Hid (∀ h : j < d.files.length, ¬ d.files[j].name < s) := Lib.hid (fun h => by rw [hx]; exact hn)
          clear hx hxn hn
          have hz := add_zero_map (some ⟨g, off, none⟩)
          have hsl1 := fun W => rtake_run (n := N) j (by omega : j ≤ c) hz W
          have hsl2 := fun W => rdrop_run (some ⟨g, off, none⟩) N c j hj W
          obtain ⟨od, hod⟩ : ∃ od : Option Addr, od = if c = j then some ⟨g, off, none⟩ else (some (⟨g, off, none⟩ : Addr)).map (·.add (j * 5)) := ⟨_, rfl⟩
          rw [← hod] at hsl2
          have HOD := Lib.hid hod
          clear hod hz
          go_wp2_with (at_builtin; first | (refine wpList_append_rf (w0 := w2) rfl (.tmp 53) (.tmp 59) rfl (NewRow.nil (Below.refl _ _)) (l2 := d.files.take j) (k := j) (by rw [List.length_take, HAT.out.2]; omega) (rowAt.files_take HH2.out.2 hj) (t := j) (by omega) (by omega) rfl rfl ?_; intro oa3 c3 w3 HL1) | (refine wpList_append_rf (w0 := w2) rfl (.tmp 61) (.tmp 64) rfl (HL1.out.alloc _) (l2 := [⟨s, [], 0, true, false⟩]) (k := 1) rfl (by rw [HFX.out]; exact (rfive_row w3 _ _ _ _ _).read) (t := j + 1) rfl (by omega) rfl rfl ?_; intro oa4 c4 w4 HL2; have hp4 := (HL2.out.below.block p hplt).trans HH2.out.1; have c04 : w4.cell? ⟨p, 0, none⟩ = some (.slice (some ⟨g, off, none⟩) N c) := cell_of hp4 rfl; clear hp4) | (refine wpList_append_rf (w0 := w2) rfl (.tmp 67) (.tmp 73) rfl HL2.out (l2 := d.files.drop j) (k := N - j) (by rw [List.length_drop, HAT.out.2]) (by rw [HOD.out]; exact rowAt.files_drop (HH2.out.2.kept (fun k hk => HL2.out.below.block k (HH2.out.2.lt k hk))) hj) (t := N + 1) (by omega) (by omega) rfl rfl ?_; intro oa5 c5 w5 HL3; have hp5 := (HL3.out.below.block p hplt).trans HH2.out.1; have c05 : w5.cell? ⟨p, 0, none⟩ = some (.slice (some ⟨g, off, none⟩) N c) := cell_of hp5 rfl; have z05 : w5.frozen? ⟨p, 0, none⟩ = false := free_of hp5 _; clear hp5))
          go_ret
          rw [HSS.out]
          refine HD.out j _ _ hj HA.out HB.out ?_
          have h9 := HL3.out
          simp only [List.nil_append, List.append_assoc, List.singleton_append] at h9
          exact h9
      · have HB : Hid (∀ h : j < d.files.length, ¬ d.files[j].name < s) := Lib.hid (fun h => by rw [HAT.out.2] at h; omega)
        have hz := add_zero_map oa
        have hsl1 := fun W => rtake_run (n := N) j (by omega : j ≤ c) hz W
        have hsl2 := fun W => rdrop_run oa N c j hj W
        obtain ⟨od, hod⟩ : ∃ od : Option Addr, od = if c = j then oa else (oa).map (·.add (j * 5)) := ⟨_, rfl⟩
        rw [← hod] at hsl2
        have HOD := Lib.hid hod
        clear hod hz
        go_wp2_with (at_builtin; first | (refine wpList_append_rf (w0 := w2) rfl (.tmp 53) (.tmp 59) rfl (NewRow.nil (Below.refl _ _)) (l2 := d.files.take j) (k := j) (by rw [List.length_take, HAT.out.2]; omega) (rowAt.files_take HH2.out.2 hj) (t := j) (by omega) (by omega) rfl rfl ?_; intro oa3 c3 w3 HL1) | (refine wpList_append_rf (w0 := w2) rfl (.tmp 61) (.tmp 64) rfl (HL1.out.alloc _) (l2 := [⟨s, [], 0, true, false⟩]) (k := 1) rfl (by rw [HFX.out]; exact (rfive_row w3 _ _ _ _ _).read) (t := j + 1) rfl (by omega) rfl rfl ?_; intro oa4 c4 w4 HL2; have hp4 := (HL2.out.below.block p hplt).trans HH2.out.1; have c04 : w4.cell? ⟨p, 0, none⟩ = some (.slice (oa) N c) := cell_of hp4 rfl; clear hp4) | (refine wpList_append_rf (w0 := w2) rfl (.tmp 67) (.tmp 73) rfl HL2.out (l2 := d.files.drop j) (k := N - j) (by rw [List.length_drop, HAT.out.2]) (by rw [HOD.out]; exact rowAt.files_drop (HH2.out.2.kept (fun k hk => HL2.out.below.block k (HH2.out.2.lt k hk))) hj) (t := N + 1) (by omega) (by omega) rfl rfl ?_; intro oa5 c5 w5 HL3; have hp5 := (HL3.out.below.block p hplt).trans HH2.out.1; have c05 : w5.cell? ⟨p, 0, none⟩ = some (.slice (oa) N c) := cell_of hp5 rfl; have z05 : w5.frozen? ⟨p, 0, none⟩ = false := free_of hp5 _; clear hp5))
        go_ret
        rw [HSS.out]
        refine HD.out j _ _ hj HA.out HB.out ?_
        have h9 := HL3.out
        simp only [List.nil_append, List.append_assoc, List.singleton_append] at h9
        exact h9
end Go.Proofs.Ytmkjejngnahpeaa
/- Disk: Cut. -/
namespace Go.Proofs.Ytmkjejngnahpeaa
open Go Go.Maps Go.RowKit

def Dk.cut (d : Dk) (s : List UInt8) (n : Int) : Int × Dk :=
  if nameOk s = false then (2, d)
  else match d.find s with
    | none => (171, d)
    | some f => if n < 0 ∨ (f.bytes.length : Int) < n then (4, d)
      else if d.fate.1 ≠ 0 then (d.fate.1, d.next)
      else (0, d.next.turn s fun f => { f with bytes := f.bytes.take n.toNat, lasts := min f.lasts n.toNat })
theorem run_both (oa : Option Addr) (N c E : Nat) (h2 : E ≤ c) (h0 : oa.map (fun x => x.add 0) = oa) (W : World) : (Instr.slice 79 (.slice oa N c) none (some (.int .i64 (E : Int))) (some (.int .i64 (E : Int)))).run Try.prog W = .ok (.slice oa E E) W := by
  have hs : (sizeOf 5).run Try.prog W = .ok 1 W := by kernel_rfl
  have he : Try.prog.elem 79 = 5 := by kernel_rfl
  rw [run_slice_hm (P := Try.prog) (w := W) 79 oa N c (by rw [he]; exact Try.underlying79) .i64 .i64 E E (by omega) (by omega) (by omega), he, hs]
  simp [Result.andThen, sliced, h0]
theorem rowAt.cap {w : World} {e : TypeId} {size : Nat} {oa : Option Addr} {n cap : Nat} {xs : List Value} (h : rowAt w e size (.slice oa n cap) n xs) (k : Nat) (hk : k ≤ n) : rowAt w e size (.slice oa k k) k (xs.take (k * size)) := by
  obtain ⟨hm, hc⟩ := h.map0
  have h1 := h.sub 0 k k (Nat.zero_le _) hk (Nat.le_refl _) (Nat.le_trans hk hc)
  simp only [Nat.zero_mul, List.drop_zero, Nat.sub_zero] at h1
  rw [hm] at h1
  simpa using h1
/-- a file is cut -/
theorem set_cut {w w2 : World} {S : Nat → Prop} {q mb : Nat} {fv' : Value} {A B : List Fl} {x : Fl} {d1 : Dk} (ho : Only (fun k => k = q) w w2) (h2 : DiskIs w2 S q mb fv' (A ++ x :: B) d1) {oa : Option Addr} {c k : Nat} (hbv : x.bv = .slice oa x.f.bytes.length c) (hk : k ≤ x.f.bytes.length) {v : Int} (hv : v = ((min x.f.lasts k : Nat) : Int))
    {s : List UInt8} {t : F0 → F0} (hs : x.f.name = s) (ht : t x.f = { x.f with bytes := x.f.bytes.take k, lasts := min x.f.lasts k }) (n : Int) :
    OpIs w S q (n, d1.turn s t) (.returned (.int .i64 n)) ((w2.setCell ⟨x.blk, 0, none⟩ (.slice oa k k)).setCell ⟨x.blk, 1, none⟩ (.int .i64 v)) := by
  subst hv
  have hx := h2.each x (by simp)
  have hset : Only (fun k => k = x.blk) w2 ((w2.setCell ⟨x.blk, 0, none⟩ (.slice oa k k)).setCell ⟨x.blk, 1, none⟩ (.int .i64 ((min x.f.lasts k : Nat) : Int))) :=
    (only_setCell (fun k => k = x.blk) w2 x.blk 0 _ rfl).trans (only_setCell (fun k => k = x.blk) _ x.blk 1 _ rfl) (fun _ _ h => h)
  have hown : (Value.slice oa k k).ownBlock = x.bv.ownBlock := by
    rw [hbv]
    cases oa with
    | none => rfl
    | some a => rfl
  have hrow := hx.row
  rw [hbv] at hrow
  have hr2 := hrow.cap k hk
  rw [Nat.mul_one, byteCells_take] at hr2
  have hlen : (x.f.bytes.take k).length = k := by rw [List.length_take]; omega
  refine file_done (x' := ⟨{ x.f with bytes := x.f.bytes.take k, lasts := min x.f.lasts k }, x.blk, .slice oa k k⟩) ho h2 (hset.mono (fun i _ hi => by rw [hi]; simp [Fl.blocks])) rfl rfl ⟨?_, ?_, ?_, ?_⟩ (fun i hi => .inl (by rw [← hown]; exact hi)) hs ht.symm n
  · exact heap_setCell_here _ (heap_setCell_here (w := w2) _ hx.cells)
  · show rowAt _ _ 1 _ (x.f.bytes.take k).length (byteCells (x.f.bytes.take k))
    rw [hlen]
    exact hr2.kept (fun i hi => hset.block i (hr2.lt i hi) (FlAt.own_ne h2 i (by rw [← hown]; exact hi)))
  · show min x.f.lasts k ≤ (x.f.bytes.take k).length
    omega
  · show (x.f.bytes.take k).length ≤ 16777216
    have := hx.size
    omega
set_option maxRecDepth 100000 in
set_option maxHeartbeats 1000000 in
theorem cut_b {w : World} {S : Nat → Prop} {q : Nat} {d : Dk} (h : DiskAt w S q d) (nm : ByteArray) (hs : nm.size ≤ maxLen) (n : Int) :
    Calls Try.prog 49 #[.pointer (some ⟨q, 0, none⟩), .string nm, .int .i64 n] w fun e w' => OpIs w S q (d.cut nm.data.toList n) e w' := by
  obtain ⟨mb, fv, L, h⟩ := h
  go_enter Try.func49, Try.ntmps49
  go_wp2_with fail
  refine (find_b h nm hs).mono ?_
  rintro e w' ⟨hF, rfl⟩
  rcases hF with ⟨hn, rfl⟩ | ⟨hn, hf, rfl⟩ | ⟨hn, A, x, B, rfl, hxn, hxt, hf, rfl⟩
  · have HO : Hid (OpIs w' S q (d.cut nm.data.toList n) (.returned (.int .i64 2)) w') := Lib.hid (by
      rw [show d.cut nm.data.toList n = (2, d) by simp [Dk.cut, hn]]
      exact OpIs.same h 2)
    clear h hn
    go_wp2_with fail
    go_ret
    exact HO.out
  · have HO : Hid (OpIs w' S q (d.cut nm.data.toList n) (.returned (.int .i64 171)) w') := Lib.hid (by
      rw [show d.cut nm.data.toList n = (171, d) by simp [Dk.cut, hn, hf]]
      exact OpIs.same h 171)
    clear h hn hf
    go_wp2_with fail
    go_ret
    exact HO.out
  · have hx0 := h.each x (by simp)
    obtain ⟨oaf, cf, hbv, hnc⟩ := hx0.row.shape
    obtain ⟨N, hnn⟩ : ∃ N, x.f.bytes.length = N := ⟨_, rfl⟩
    obtain ⟨l, hll⟩ : ∃ l, x.f.lasts = l := ⟨_, rfl⟩
    have hxc := hx0.cells
    rw [hbv, hnn] at hxc
    have k0 : w'.cell? ⟨x.blk, 0, none⟩ = some (.slice oaf N cf) := cell_of hxc rfl
    have HBV := Lib.hid (And.intro hbv (And.intro hnn hll))
    have H := Lib.hid h
    have HN := Lib.hid (And.intro hn hf)
    clear h hn hf hxc hx0 hbv hnn hnc hll
    by_cases hbad : n < 0 ∨ (N : Int) < n
    · have HO : Hid (OpIs w' S q (d.cut nm.data.toList n) (.returned (.int .i64 4)) w') := Lib.hid (by
        rw [show d.cut nm.data.toList n = (4, d) by simp [Dk.cut, HN.out.1, HN.out.2, HBV.out.2.1, hbad]]
        exact OpIs.same H.out 4)
      by_cases e1 : n < 0
      · go_wp2_with fail
        go_ret
        exact HO.out
      · have e2 : (N : Int) < n := by omega
        go_wp2_with fail
        go_ret
        exact HO.out
    · obtain ⟨ν, rfl⟩ : ∃ ν : Nat, n = (ν : Int) := ⟨n.toNat, by omega⟩
      have hνN : ν ≤ N := by omega
      have d1 : decide ((ν : Int) < 0) = false := by simp
      have d2 : decide ((N : Int) < (ν : Int)) = false := by simp; omega
      go_wp2_with fail
      refine (step_b H.out).mono ?_
      rintro e w1 ⟨kd, kp, fv', rfl, hkp, h1, ho1⟩
      obtain ⟨er, her⟩ : ∃ er, d.fate.1 = er := ⟨_, rfl⟩
      rw [her]
      have H1 := Lib.hid h1
      have HO1 := Lib.hid ho1
      have HE := Lib.hid her
      clear h1 ho1 hkp her k0 d1 d2
      go_upto_region 7 with fail
      obtain ⟨w2, hw2⟩ : ∃ w2 : World, w2 = w1.alloc (.cells #[.int .i64 kd, .int .i64 kp] 99) := ⟨_, rfl⟩
      obtain ⟨r, hr⟩ : ∃ r, r = w1.heap.size := ⟨_, rfl⟩
      have h2 : DiskIs w2 S q mb fv' (A ++ x :: B) d.next := by rw [hw2]; exact H1.out.below ((Below.refl _ _).alloc (Nat.le_refl _) _)
      have ho2 : Only (fun k => k = q) w' w2 := by rw [hw2]; exact HO1.out.trans (only_alloc (fun k => k = q) _ _) (fun _ _ h => h)
      rw [← hw2, ← hr]
      clear hw2 hr H1 HO1
      by_cases h0 : er = 0
      · subst h0
        have hx := h2.each x (by simp)
        have hxc := hx.cells
        have hxr := hx.row
        rw [HBV.out.1, HBV.out.2.1, HBV.out.2.2] at hxc
        rw [HBV.out.1, HBV.out.2.1] at hxr
        obtain ⟨hm0, hNc⟩ := hxr.map0
        have hsl : ∀ W : World, (Instr.slice 79 (.slice oaf N cf) none (some (.int .i64 (ν : Int))) (some (.int .i64 (ν : Int)))).run Try.prog W = .ok (.slice oaf ν ν) W := fun W => run_both oaf N cf ν (by omega) hm0 W
        have k0 : w2.cell? ⟨x.blk, 0, none⟩ = some (.slice oaf N cf) := cell_of hxc rfl
        have z0 : w2.frozen? ⟨x.blk, 0, none⟩ = false := free_of hxc _
        have hc3 := heap_setCell_here (i := 0) (.slice oaf ν ν) hxc
        have k1 : (w2.setCell ⟨x.blk, 0, none⟩ (.slice oaf ν ν)).cell? ⟨x.blk, 1, none⟩ = some (.int .i64 l) := cell_of hc3 rfl
        have z1 : (w2.setCell ⟨x.blk, 0, none⟩ (.slice oaf ν ν)).frozen? ⟨x.blk, 1, none⟩ = false := free_of hc3 _
        have HO : Hid (∀ v : Int, v = ((min l ν : Nat) : Int) → OpIs w' S q (d.cut nm.data.toList ν) (.returned (.int .i64 0)) ((w2.setCell ⟨x.blk, 0, none⟩ (.slice oaf ν ν)).setCell ⟨x.blk, 1, none⟩ (.int .i64 v))) := Lib.hid (fun v hv => by
          have h3 := set_cut ho2 h2 (oa := oaf) (c := cf) (k := ν) HBV.out.1 (by rw [HBV.out.2.1]; exact hνN) (v := v) (by rw [HBV.out.2.2]; exact hv) (s := nm.data.toList) (t := fun f => { f with bytes := f.bytes.take ν, lasts := min f.lasts ν }) hxn rfl 0
          have hb' : ¬ ((ν : Int) < 0 ∨ (N : Int) < (ν : Int)) := hbad
          have e : d.cut nm.data.toList ν = (0, d.next.turn nm.data.toList fun f => { f with bytes := f.bytes.take ν, lasts := min f.lasts ν }) := by
            unfold Dk.cut
            rw [HN.out.1, HN.out.2]
            simp only [HBV.out.2.1, HE.out]
            rw [if_neg (by simp), if_neg hb', if_neg (by simp)]
            rfl
          rw [e]
          exact h3)
        clear h2 ho2 hx hxc hxr hm0 hc3
        go_wp2_with fail
        all_goals (go_ret; refine HO.out _ ?_; omega)
      · have hb0 : (er != 0) = true := by simpa using h0
        have HO : Hid (OpIs w' S q (d.cut nm.data.toList ν) (.returned (.int .i64 er)) w2) := Lib.hid (by
          rw [show d.cut nm.data.toList ν = (er, d.next) by
            unfold Dk.cut
            rw [HN.out.1, HN.out.2]
            simp only [HBV.out.2.1, HE.out]
            rw [if_neg (by simp), if_neg hbad, if_pos h0]]
          exact OpIs.next ho2 h2 er)
        clear h0 h2 ho2
        go_wp2_with fail
        go_ret
        exact HO.out
end Go.Proofs.Ytmkjejngnahpeaa
/- Disk: Steps. -/
namespace Go.Proofs.Ytmkjejngnahpeaa
open Go Go.Maps Go.RowKit

set_option maxHeartbeats 400000 in
theorem steps_b {w : World} {S : Nat → Prop} {q : Nat} {d : Dk} (h : DiskAt w S q d) :
    Calls Try.prog 44 #[.pointer (some ⟨q, 0, none⟩)] w fun e w' => e = .returned (.tuple #[.int .i64 d.steps, .int .i64 d.fates.length]) ∧ Below w.heap.size w w' := by
  obtain ⟨mb, fv, L, h⟩ := h
  obtain ⟨oa, cap, rfl, _⟩ := h.fates.shape
  obtain ⟨st, hst⟩ : ∃ st, d.steps = st := ⟨_, rfl⟩
  obtain ⟨n, hn⟩ : ∃ n, d.fates.length = n := ⟨_, rfl⟩
  have hh := h.head
  rw [hst, hn] at hh
  have c1 : w.cell? ⟨q, 1, none⟩ = some (.slice oa n cap) := cell_of hh rfl
  have c2 : w.cell? ⟨q, 2, none⟩ = some (.int .i64 st) := cell_of hh rfl
  rw [hst, hn]
  have H := Lib.hid h
  clear h hh hst hn
  go_enter Try.func44, Try.ntmps44
  go_wp2_with fail
  refine (none_b H.out).mono ?_
  rintro e w' ⟨rfl, rfl⟩
  go_upto_region 3 with fail
  go_region
  go_wp2_with fail
  go_ret2
  exact ⟨rfl, ⟨rfl, rfl, rfl, Nat.le_refl _, fun _ _ => rfl⟩⟩
end Go.Proofs.Ytmkjejngnahpeaa
/- Disk: Remove. -/
namespace Go.Proofs.Ytmkjejngnahpeaa
open Go Go.Maps Go.RowKit

section
variable {w : World} {S : Nat → Prop} {q mb : Nat} {fv : Value} {d : Dk}
/-- a file is struck -/
theorem DiskIs.file_drop {w' : World} {A B : List Fl} {x : Fl} {n' : Nat} {D' : DataW Unit} {fs : List F0} (h : DiskIs w S q mb fv (A ++ x :: B) d) (ho : Only (fun k => k = mb) w w')
    (hm : w'.ownsMap Try.prog 9 ptrElem mb n' D') (hd : Dic D' ((A ++ B).map fun x => (x.f.name, x.blk))) (hfs : fs = A.map (·.f) ++ B.map (·.f)) : DiskIs w' S q mb fv (A ++ B) { d with files := fs } := by
  have hp := blocks_perm q mb fv A x B
  have hnd := (List.nodup_append.1 (hp.nodup_iff.1 h.apart)).2.1
  have hin : ∀ k ∈ diskBlocks q mb fv (A ++ B), S k := fun k hk => h.foot k (hp.mem_iff.2 (List.mem_append_right _ hk))
  have hne : ∀ k ∈ diskBlocks q mb fv (A ++ B), k ≠ mb → w'.heap[k]? = w.heap[k]? := fun k hk hk' => ho.block k (h.low k (hin k hk)) hk'
  have hap := hnd
  simp only [diskBlocks, List.nodup_cons, List.mem_cons, not_or] at hap
  have hmb : ∀ k, k ∈ fv.ownBlock.toList ++ (A ++ B).flatMap Fl.blocks → k ≠ mb := fun k hk e => hap.2.1 (e ▸ hk)
  have hfl : d.files = A.map (·.f) ++ x.f :: B.map (·.f) := by rw [← h.files]; simp
  have hsub : fs.Sublist d.files := by
    rw [hfs, hfl]
    exact List.Sublist.append_left (List.sublist_cons_self _ _) _
  have hs2 : (fs.map (·.name)).Pairwise (· < ·) := h.sorted.sublist (hsub.map _)
  exact {
    files := by rw [hfs]; simp
    head := (hne q (by simp [diskBlocks]) (fun e => hap.1.1 e)).trans h.head
    fates := h.fates.kept (fun k hk => hne k (by simp [diskBlocks, hk]) (hmb k (by simp [hk])))
    map := by
      refine ⟨D', ?_, hd⟩
      have h1 := ownsMap_tight hm
      rw [hd.size hm (by
        rw [List.map_map]
        have : ((A ++ B).map (·.f.name)).Pairwise (· < ·) := by rw [hfs] at hs2; simpa [Function.comp_def] using hs2
        exact this.imp (fun {a b} hab he => by rw [he] at hab; exact List.lt_irrefl _ hab))] at h1
      simpa using h1
    each := fun y hy => (h.each y (by
      rcases List.mem_append.1 hy with h1 | h1
      · simp [h1]
      · simp [h1])).kept (fun k hk => by
        have h1 : k ∈ fv.ownBlock.toList ++ (A ++ B).flatMap Fl.blocks := List.mem_append_right _ (List.mem_flatMap.2 ⟨y, hy, hk⟩)
        exact hne k (by simp only [diskBlocks, List.mem_cons]; exact .inr (.inr h1)) (hmb k h1))
    apart := hnd
    foot := hin
    low := fun k hk => Nat.lt_of_lt_of_le (h.low k hk) ho.size
    sorted := hs2
    names := fun f hf => h.names f (hsub.subset hf)
    few := Nat.le_trans hsub.length_le h.few }
end
def Dk.remove (d : Dk) (s : List UInt8) : Int × Dk :=
  if nameOk s = false then (2, d)
  else match d.find s with
    | none => (171, d)
    | some f => if d.fate.1 ≠ 0 then (d.fate.1, d.next)
      else if f.named = true then (0, d.next.turn s fun f => { f with bytes := f.bytes.take f.lasts, there := false })
      else (0, { d.next with files := d.files.filter fun f => f.name != s })
end Go.Proofs.Ytmkjejngnahpeaa
/- Disk: Remove, the call. -/
namespace Go.Proofs.Ytmkjejngnahpeaa
open Go Go.Maps Go.RowKit

theorem filter_list {A B : List Fl} {x : Fl} {d : Dk} {s : List UInt8} (hf : (A ++ x :: B).map (·.f) = d.files) (hs : (d.files.map (·.name)).Pairwise (· < ·)) (hx : x.f.name = s) :
    (d.files.filter fun f => f.name != s) = A.map (·.f) ++ B.map (·.f) ∧ (∀ y ∈ A ++ B, y.f.name ≠ s) := by
  have hnd : (d.files.map (·.name)).Nodup := hs.imp (fun {a b} hab he => by rw [he] at hab; exact List.lt_irrefl _ hab)
  rw [← hf, List.map_append, List.map_cons, List.map_append, List.map_cons] at hnd
  have h2 := List.nodup_append.1 hnd
  have hA : ∀ y ∈ A, y.f.name ≠ s := fun y hy he => h2.2.2 y.f.name (List.mem_map_of_mem (List.mem_map_of_mem hy)) x.f.name (by simp) (by rw [he, hx])
  have hB : ∀ y ∈ B, y.f.name ≠ s := fun y hy he => (List.nodup_cons.1 h2.2.1).1 (by rw [hx, ← he]; exact List.mem_map_of_mem (List.mem_map_of_mem hy))
  refine ⟨?_, fun y hy => ?_⟩
  · rw [← hf, List.map_append, List.map_cons, List.filter_append, List.filter_cons]
    have hxs : (x.f.name != s) = false := by simp [hx]
    rw [hxs]
    have e1 : (A.map (·.f)).filter (fun f => f.name != s) = A.map (·.f) := List.filter_eq_self.2 (fun f hf' => by
      obtain ⟨y, hy, rfl⟩ := List.mem_map.1 hf'
      simpa using hA y hy)
    have e2 : (B.map (·.f)).filter (fun f => f.name != s) = B.map (·.f) := List.filter_eq_self.2 (fun f hf' => by
      obtain ⟨y, hy, rfl⟩ := List.mem_map.1 hf'
      simpa using hB y hy)
    rw [e1, e2]
    rfl
  · rcases List.mem_append.1 hy with h | h
    · exact hA y h
    · exact hB y h
/-- a file is struck from the map -/
theorem set_drop {w w2 w3 : World} {S : Nat → Prop} {q mb n' : Nat} {fv' : Value} {A B : List Fl} {x : Fl} {d d1 : Dk} {D : DataW Unit} {s : List UInt8} (ho : Only (fun k => k = q) w w2) (h2 : DiskIs w2 S q mb fv' (A ++ x :: B) d1) (hd : Dic D ((A ++ x :: B).map fun x => (x.f.name, x.blk)))
    (ht : w2.mapTurned w3 mb) (hm : w3.ownsMap Try.prog 9 ptrElem mb n' (D.del (.string s))) (hx : x.f.name = s) (hf : d.files = d1.files) :
    OpIs w S q (0, { d1 with files := d.files.filter fun f => f.name != s }) (.returned (.int .i64 0)) w3 := by
  obtain ⟨e1, e2⟩ := filter_list h2.files h2.sorted hx
  rw [hf, e1]
  have ho3 : Only (fun k => k = mb) w2 w3 := Only.of_grown (S := fun k => k = mb) ht.grown (fun k hk => by simp at hk; exact hk.symm)
  have hd2 : Dic (D.del (.string s)) ((A ++ B).map fun x => (x.f.name, x.blk)) := hd.del s (fun f => by
    constructor
    · intro h
      obtain ⟨y, hy, rfl⟩ := List.mem_map.1 h
      refine ⟨List.mem_map.2 ⟨y, ?_, rfl⟩, e2 y hy⟩
      rcases List.mem_append.1 hy with h1 | h1
      · simp [h1]
      · simp [h1]
    · rintro ⟨h, hne⟩
      obtain ⟨y, hy, rfl⟩ := List.mem_map.1 h
      refine List.mem_map.2 ⟨y, ?_, rfl⟩
      rcases List.mem_append.1 hy with h1 | h1
      · simp [h1]
      · rcases List.mem_cons.1 h1 with rfl | h1
        · exact absurd hx hne
        · simp [h1])
  have h4 := h2.file_drop ho3 hm hd2 rfl
  refine ⟨rfl, ⟨mb, fv', _, h4.wider (fun k hk => .inl hk) (fun k hk => ?_)⟩, ?_⟩
  · rcases hk with hk | hk
    · exact Nat.lt_of_lt_of_le (h2.low k hk) ho3.size
    · exact hk.2
  · exact (ho.mono (fun i _ hi => by rw [hi]; exact h2.q_mem)).trans ho3 (fun i _ hi => by rw [hi]; exact h2.foot _ (by simp [diskBlocks]))
end Go.Proofs.Ytmkjejngnahpeaa
