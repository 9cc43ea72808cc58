/- The texts Eq, Er, Es, Et in one. -/
import Derived.Test.YtmkjejngnahpeaaA8
/- Disk: Remove, its walk. -/
namespace Go.Proofs.Ytmkjejngnahpeaa
open Go Go.Maps Go.RowKit

/-- a file with a lasting name is taken away -/
theorem set_gone {w w2 : World} {S : Nat → Prop} {q mb : Nat} {fv' : Value} {A B : List Fl} {x : Fl} {d1 : Dk} (ho : Only (fun k => k = q) w w2) (h2 : DiskIs w2 S q mb fv' (A ++ x :: B) d1) {oa : Option Addr} {c l : Nat} (hbv : x.bv = .slice oa x.f.bytes.length c) (hl : x.f.lasts = l)
    {s : List UInt8} {t : F0 → F0} (hs : x.f.name = s) (ht : t x.f = { x.f with bytes := x.f.bytes.take x.f.lasts, there := false }) (n : Int) :
    OpIs w S q (n, d1.turn s t) (.returned (.int .i64 n)) ((w2.setCell ⟨x.blk, 2, none⟩ (.bool false)).setCell ⟨x.blk, 0, none⟩ (.slice oa l l)).drew := by
  subst hl
  have hx := h2.each x (by simp)
  have hset : Only (fun k => k = x.blk) w2 ((w2.setCell ⟨x.blk, 2, none⟩ (.bool false)).setCell ⟨x.blk, 0, none⟩ (.slice oa x.f.lasts x.f.lasts)).drew :=
    only_drew ((only_setCell (fun k => k = x.blk) w2 x.blk 2 _ rfl).trans (only_setCell (fun k => k = x.blk) _ x.blk 0 _ rfl) (fun _ _ h => h))
  have hown : (Value.slice oa x.f.lasts x.f.lasts).ownBlock = x.bv.ownBlock := by
    rw [hbv]
    cases oa with
    | none => rfl
    | some a => rfl
  have hrow := hx.row
  rw [hbv] at hrow
  have hr2 := hrow.cap x.f.lasts hx.lasts
  rw [Nat.mul_one, byteCells_take] at hr2
  have hlen : (x.f.bytes.take x.f.lasts).length = x.f.lasts := by have := hx.lasts; rw [List.length_take]; omega
  refine file_done (x' := ⟨{ x.f with bytes := x.f.bytes.take x.f.lasts, there := false }, x.blk, .slice oa x.f.lasts x.f.lasts⟩) ho h2 (hset.mono (fun i _ hi => by rw [hi]; simp [Fl.blocks])) rfl rfl ⟨?_, ?_, ?_, ?_⟩ (fun i hi => .inl (by rw [← hown]; exact hi)) hs ht.symm n
  · exact heap_setCell_here (w := w2.setCell ⟨x.blk, 2, none⟩ (.bool false)) _ (heap_setCell_here (w := w2) _ hx.cells)
  · show rowAt _ _ 1 _ (x.f.bytes.take x.f.lasts).length (byteCells (x.f.bytes.take x.f.lasts))
    rw [hlen]
    exact hr2.kept (fun i hi => hset.block i (hr2.lt i hi) (FlAt.own_ne h2 i (by rw [← hown]; exact hi)))
  · show x.f.lasts ≤ (x.f.bytes.take x.f.lasts).length
    omega
  · show (x.f.bytes.take x.f.lasts).length ≤ 16777216
    have := hx.size
    have := hx.lasts
    omega
set_option maxRecDepth 100000 in
set_option maxHeartbeats 1000000 in
theorem remove_b {w : World} {S : Nat → Prop} {q : Nat} {d : Dk} (h : DiskAt w S q d) (nm : ByteArray) (hs : nm.size ≤ maxLen) :
    Calls Try.prog 50 #[.pointer (some ⟨q, 0, none⟩), .string nm] w fun e w' => OpIs w S q (d.remove nm.data.toList) e w' := by
  obtain ⟨mb, fv, L, h⟩ := h
  go_enter Try.func50, Try.ntmps50
  go_wp2_with fail
  refine (find_b h nm hs).mono ?_
  rintro e w' ⟨hF, rfl⟩
  rcases hF with ⟨hn, rfl⟩ | ⟨hn, hf, rfl⟩ | ⟨hn, A, x, B, rfl, hxn, hxt, hf, rfl⟩
  · have HO : Hid (OpIs w' S q (d.remove nm.data.toList) (.returned (.int .i64 2)) w') := Lib.hid (by
      rw [show d.remove nm.data.toList = (2, d) by simp [Dk.remove, hn]]
      exact OpIs.same h 2)
    clear h hn
    go_wp2_with fail
    go_ret
    exact HO.out
  · have HO : Hid (OpIs w' S q (d.remove nm.data.toList) (.returned (.int .i64 171)) w') := Lib.hid (by
      rw [show d.remove nm.data.toList = (171, d) by simp [Dk.remove, hn, hf]]
      exact OpIs.same h 171)
    clear h hn hf
    go_wp2_with fail
    go_ret
    exact HO.out
  · have H := Lib.hid h
    have HN := Lib.hid (And.intro hn hf)
    clear h hn hf
    go_wp2_with fail
    refine (step_b H.out).mono ?_
    rintro e w1 ⟨kd, kp, fv', rfl, hkp, h1, ho1⟩
    obtain ⟨er, her⟩ : ∃ er, d.fate.1 = er := ⟨_, rfl⟩
    rw [her]
    have H1 := Lib.hid h1
    have HO1 := Lib.hid ho1
    have HE := Lib.hid her
    clear h1 ho1 hkp her
    go_upto_region 5 with fail
    obtain ⟨w2, hw2⟩ : ∃ w2 : World, w2 = w1.alloc (.cells #[.int .i64 kd, .int .i64 kp] 99) := ⟨_, rfl⟩
    obtain ⟨r, hr⟩ : ∃ r, r = w1.heap.size := ⟨_, rfl⟩
    have h2 : DiskIs w2 S q mb fv' (A ++ x :: B) d.next := by rw [hw2]; exact H1.out.below ((Below.refl _ _).alloc (Nat.le_refl _) _)
    have ho2 : Only (fun k => k = q) w' w2 := by rw [hw2]; exact HO1.out.trans (only_alloc (fun k => k = q) _ _) (fun _ _ h => h)
    rw [← hw2, ← hr]
    clear hw2 hr H1 HO1
    by_cases h0 : er = 0
    · subst h0
      have hx := h2.each x (by simp)
      have hxc := hx.cells
      obtain ⟨nd, hnd⟩ : ∃ nd, x.f.named = nd := ⟨_, rfl⟩
      have k3 : w2.cell? ⟨x.blk, 3, none⟩ = some (.bool nd) := by rw [← hnd]; exact cell_of hxc rfl
      cases nd with
      | false =>
        have c0 : w2.cell? ⟨q, 0, none⟩ = some (.map (some mb)) := cell_of h2.head rfl
        obtain ⟨D, hown, hdsz, hdic⟩ := h2.look
        have HOWN := Lib.hid (And.intro hown hdic)
        have HKEY : Hid (keyOf Try.prog 9 (.string nm) = some (.string nm.data.toList)) := Lib.hid (WideMaps.keyOf_string_mk (P := Try.prog) Try.underlying9 hs)
        have H2 := Lib.hid h2
        have HO2 := Lib.hid ho2
        have HND := Lib.hid hnd
        clear h2 ho2 hx hxc hown hdsz hdic hnd
        go_wp2_with (at_delete; refine wpList_delete_own _ rfl _ _ 120 9 rfl 176 (string_keyed Try.underlying9) Try.underlying120 ptrElem mb _ D rfl HOWN.out.1 _ _ rfl HKEY.out ?_; intro w3 hown3 hturn3; have HW3 := Lib.hid (And.intro hown3 hturn3); clear hown3 hturn3)
        go_ret
        have h3 := set_drop (d := d) HO2.out H2.out HOWN.out.2 HW3.out.2 HW3.out.1 hxn rfl
        have e : d.remove nm.data.toList = (0, { d.next with files := d.files.filter fun f => f.name != nm.data.toList }) := by
          unfold Dk.remove
          rw [HN.out.1, HN.out.2]
          simp only [HE.out, HND.out]
          rw [if_neg (by simp), if_neg (by simp), if_neg (by simp)]
        rw [e]
        exact h3
      | true =>
        obtain ⟨oaf, cf, hbv, hnc⟩ := hx.row.shape
        obtain ⟨N, hnn⟩ : ∃ N, x.f.bytes.length = N := ⟨_, rfl⟩
        obtain ⟨l, hll⟩ : ∃ l, x.f.lasts = l := ⟨_, rfl⟩
        have hlN : l ≤ N := by rw [← hnn, ← hll]; exact hx.lasts
        have hxr := hx.row
        rw [hbv, hnn] at hxr
        obtain ⟨hm0, hNc⟩ := hxr.map0
        rw [hbv, hnn, hll, hxt, hnd] at hxc
        have hsl : ∀ W : World, (Instr.slice 79 (.slice oaf N cf) none (some (.int .i64 (l : Int))) (some (.int .i64 (l : Int)))).run Try.prog W = .ok (.slice oaf l l) W := fun W => run_both oaf N cf l (by omega) hm0 W
        have k2 : w2.cell? ⟨x.blk, 2, none⟩ = some (.bool true) := cell_of hxc rfl
        have z2 : w2.frozen? ⟨x.blk, 2, none⟩ = false := free_of hxc _
        have HO : Hid (OpIs w' S q (d.remove nm.data.toList) (.returned (.int .i64 0)) ((w2.setCell ⟨x.blk, 2, none⟩ (.bool false)).setCell ⟨x.blk, 0, none⟩ (.slice oaf l l)).drew) := Lib.hid (by
          have h3 := set_gone ho2 h2 (oa := oaf) (c := cf) hbv hll (s := nm.data.toList) (t := fun f => { f with bytes := f.bytes.take f.lasts, there := false }) hxn rfl 0
          have e : d.remove nm.data.toList = (0, d.next.turn nm.data.toList fun f => { f with bytes := f.bytes.take f.lasts, there := false }) := by
            unfold Dk.remove
            rw [HN.out.1, HN.out.2]
            simp only [HE.out, hnd]
            rw [if_neg (by simp), if_neg (by simp), if_pos trivial]
          rw [e]
          exact h3)
        have hc3 := heap_setCell_here (i := 2) (.bool false) hxc
        clear h2 ho2 hx hxr hm0 hbv hnn hll hnc hnd
        go_upto_region 11 with fail
        obtain ⟨w3, hw3⟩ : ∃ w3 : World, w3 = w2.setCell ⟨x.blk, 2, none⟩ (.bool false) := ⟨_, rfl⟩
        rw [← hw3] at HO hc3 ⊢
        have k0 : w3.cell? ⟨x.blk, 0, none⟩ = some (.slice oaf N cf) := cell_of hc3 rfl
        have z0 : w3.frozen? ⟨x.blk, 0, none⟩ = false := free_of hc3 _
        have k1 : w3.cell? ⟨x.blk, 1, none⟩ = some (.int .i64 l) := cell_of hc3 rfl
        clear hw3 hc3 hxc k2 z2 k3
        go_region
        go_wp2_with fail
        go_ret
        exact HO.out
    · have hb0 : (er != 0) = true := by simpa using h0
      have HO : Hid (OpIs w' S q (d.remove nm.data.toList) (.returned (.int .i64 er)) w2) := Lib.hid (by
        rw [show d.remove nm.data.toList = (er, d.next) by
          unfold Dk.remove
          rw [HN.out.1, HN.out.2]
          simp only [HE.out]
          rw [if_neg (by simp), if_pos h0]]
        exact OpIs.next ho2 h2 er)
      clear h0 h2 ho2
      go_wp2_with fail
      go_ret
      exact HO.out
end Go.Proofs.Ytmkjejngnahpeaa
/- Disk: are fates such as may be. -/
namespace Go.Proofs.Ytmkjejngnahpeaa
open Go Go.Maps Go.RowKit

def badFate (x : Int × Int) : Bool := decide (x.1 < 0) || decide (2 < x.1)
set_option maxRecDepth 100000 in
set_option maxHeartbeats 400000 in
theorem badFate_b (k n : Int) (w : World) : Calls Try.prog 144 #[.agg #[.int .i64 k, .int .i64 n]] w fun e w' => e = .returned (.bool (badFate (k, n))) ∧ Below w.heap.size w w' := by
  go_enter Try.func144, Try.ntmps144
  go_upto_region 1 with fail
  obtain ⟨w1, hw1⟩ : ∃ w1 : World, w1 = w.alloc (.cells #[.int .i64 k, .int .i64 n] 99) := ⟨_, rfl⟩
  obtain ⟨r, hr⟩ : ∃ r, r = w.heap.size := ⟨_, rfl⟩
  have hr1 : w1.heap[r]? = some (.cells #[.int .i64 k, .int .i64 n] 99 (0, 0)) := by rw [hw1, hr]; exact alloc_cells _ _ _
  have HB : Hid (Below w.heap.size w w1) := Lib.hid (by rw [hw1]; exact (Below.refl _ _).alloc (Nat.le_refl _) _)
  rw [← hr, ← hw1]
  clear hw1 hr
  have c0 : w1.cell? ⟨r, 0, none⟩ = some (.int .i64 k) := cell_of hr1 rfl
  by_cases h1 : k < 0
  · have d1 : decide (k < 0) = true := by simpa using h1
    have HV : Hid (badFate (k, n) = true) := Lib.hid (by simp [badFate, h1])
    clear h1
    go_wp2_with fail
    go_ret
    exact ⟨by rw [HV.out]; rfl, HB.out⟩
  · have d1 : decide (k < 0) = false := by simpa using h1
    have HV : Hid (badFate (k, n) = decide (2 < k)) := Lib.hid (by simp [badFate]; omega)
    clear h1
    go_wp2_with fail
    go_ret
    exact ⟨by rw [HV.out]; rfl, HB.out⟩
theorem fate_cells (l : List (Int × Int)) (k : Nat) (h : k < l.length) : (fateCells l)[2 * k]? = some (.int .i64 l[k].1) ∧ (fateCells l)[2 * k + 1]? = some (.int .i64 l[k].2) := by
  induction l generalizing k with
  | nil => simp at h
  | cons x r ih =>
    cases k with
    | zero => exact ⟨rfl, rfl⟩
    | succ k =>
      have := ih k (by simpa using h)
      rw [fateCells_cons, show 2 * (k + 1) = 2 * k + 1 + 1 by omega]
      simpa using this
set_option maxRecDepth 100000 in
set_option maxHeartbeats 400000 in
theorem indexFate_b {w : World} {oa : Option Addr} {n c : Nat} {l : List (Int × Int)} (hn : l.length = n) (h : readAt w 2 (.slice oa n c) n (fateCells l)) (hm : n ≤ 1000000000) :
    Calls Try.prog 168 #[.slice oa n c, .func (.func 144) #[] #[]] w fun e w' => ∃ i : Int, e = .returned (.int .i64 i) ∧ (l.any badFate = false → i = -1) ∧ (l.any badFate = true → 0 ≤ i) ∧ Below w.heap.size w w' := by
  have H := Lib.hid h
  clear h
  go_enter Try.func168, Try.ntmps168
  go_wp2_with fail
  go_loopw [8] (fun i wr => ∃ k : Nat, k ≤ n ∧ i = .int .i64 k ∧ (l.take k).any badFate = false ∧ Below w.heap.size w wr) (fun i _ => n - (intOf i).toNat)
  case atStart => exact ⟨0, Nat.zero_le _, rfl, by simp, Below.refl _ _⟩
  case round =>
    obtain ⟨k, hk, rfl, hge, hbr⟩ := hrel
    by_cases hlt : k < n
    · obtain ⟨g, off, rfl⟩ := H.out.addr (by omega)
      obtain ⟨x, hx⟩ : ∃ x, l[k]'(by omega) = x := ⟨_, rfl⟩
      have hfc := fate_cells l k (by omega)
      rw [hx] at hfc
      have hgl := H.out.lt (by omega) g rfl
      have hc0 : wr.cell? ⟨g, off + k * 2, none⟩ = some (.int .i64 x.1) := by
        have h1 := H.out.cells (g := g) (off := off) rfl (2 * k) _ hfc.1
        rw [Go.WideShapes.add_plain, Nat.mul_comm] at h1
        rw [← h1]
        exact cell_kept_at (hbr.block g hgl)
      have hc1 : wr.cell? ⟨g, off + k * 2 + 1, none⟩ = some (.int .i64 x.2) := by
        have h1 := H.out.cells (g := g) (off := off) rfl (2 * k + 1) _ hfc.2
        rw [Go.WideShapes.add_plain, Nat.mul_comm, ← Nat.add_assoc] at h1
        rw [← h1]
        exact cell_kept_at (hbr.block g hgl)
      have HX : Hid (badFate x = false → (l.take (k + 1)).any badFate = false) := Lib.hid fun h0 => by
        rw [List.take_succ_eq_append_getElem (by omega), List.any_append, hge, hx]
        simp [h0]
      have HY : Hid (badFate x = true → l.any badFate = true) := Lib.hid fun h0 => List.any_eq_true.2 ⟨x, by rw [← hx]; exact List.getElem_mem _, h0⟩
      have HBR := Lib.hid hbr
      obtain ⟨x1, x2⟩ := x
      clear hge hx hfc hbr hgl
      go_wp2_with (go_at_call 144; refine (badFate_b x1 x2 _).mono ?_; rintro e w' ⟨rfl, hb'⟩; have HB' := Lib.hid hb'; clear hb')
      · go_ret
        exact ⟨_, rfl, fun ha => (by rw [HY.out (by assumption)] at ha; cases ha), fun _ => by omega, HBR.out.trans (HB'.out.mono HBR.out.size)⟩
      · exact ⟨⟨k + 1, by omega, by simp, HX.out (by assumption), HBR.out.trans (HB'.out.mono HBR.out.size)⟩, by simp [intOf]; omega⟩
    · obtain rfl : k = n := by omega
      have HA : Hid (l.any badFate = false) := Lib.hid (by rwa [List.take_of_length_le (by omega)] at hge)
      have HBR := Lib.hid hbr
      clear hge hbr
      go_wp2_with fail
      go_ret
      exact ⟨_, rfl, fun _ => rfl, fun h => (by rw [HA.out] at h; cases h), HBR.out⟩
end Go.Proofs.Ytmkjejngnahpeaa
/- Disk: are all fates right; a copy of fates. -/
namespace Go.Proofs.Ytmkjejngnahpeaa
open Go Go.Maps Go.RowKit

set_option maxHeartbeats 400000 in
theorem containsFate_b {w : World} {oa : Option Addr} {n c : Nat} {l : List (Int × Int)} (hn : l.length = n) (h : readAt w 2 (.slice oa n c) n (fateCells l)) (hm : n ≤ 1000000000) :
    Calls Try.prog 143 #[.slice oa n c, .func (.func 144) #[] #[]] w fun e w' => e = .returned (.bool (l.any badFate)) ∧ Below w.heap.size w w' := by
  go_enter Try.func143, Try.ntmps143
  go_wp2_with fail
  refine (indexFate_b hn h hm).mono ?_
  rintro e w1 ⟨i, rfl, h1, h2, hb⟩
  have hd : decide ((0 : Int) ≤ i) = l.any badFate := by
    cases hb : l.any badFate with
    | false =>
      have := h1 hb
      simp
      omega
    | true =>
      have := h2 hb
      simpa using this
  have HB := Lib.hid hb
  have HD := Lib.hid hd
  clear h h1 h2 hb hd
  go_wp2_with fail
  go_ret
  exact ⟨by rw [← HD.out]; rfl, HB.out⟩
set_option maxHeartbeats 400000 in
theorem right_b {w : World} {oa : Option Addr} {n c : Nat} {l : List (Int × Int)} (hn : l.length = n) (h : readAt w 2 (.slice oa n c) n (fateCells l)) (hm : n ≤ 1000000000) :
    Calls Try.prog 89 #[.slice oa n c] w fun e w' => e = .returned (.bool (!l.any badFate)) ∧ Below w.heap.size w w' := by
  go_enter Try.func89, Try.ntmps89
  go_wp2_with fail
  refine (containsFate_b hn h hm).mono ?_
  rintro e w1 ⟨rfl, hb⟩
  obtain ⟨b, hbb⟩ : ∃ b, l.any badFate = b := ⟨_, rfl⟩
  rw [hbb]
  have HB := Lib.hid hb
  have HBB := Lib.hid hbb
  clear h hb hbb
  go_wp2_with fail
  go_ret
  exact ⟨by rw [HBB.out]; rfl, HB.out⟩
theorem info_fate : (Try.prog.info? 99).map (fun i => (i.zero, i.size, i.bytes)) = some (some (.agg #[.int .i64 0, .int .i64 0]), 2, 16) := by kernel_rfl
theorem fateCells_one (l : List (Int × Int)) : ∀ v ∈ fateCells l, v.oneCell' = true := by
  intro v hv
  obtain ⟨x, _, hx⟩ := List.mem_flatMap.1 hv
  simp only [List.mem_cons, List.not_mem_nil, or_false] at hx
  rcases hx with rfl | rfl <;> rfl
theorem emptyRowF (w : World) (T : TypeId) (size : Nat) : hasRow (w.alloc (.cells #[] T)) w.heap.size T size (.slice (some ⟨w.heap.size, 0, none⟩) 0 0) 0 [] :=
  ⟨by simp, .inr ⟨_, 0, #[], (0, 0), rfl, Nat.le_refl _, heap_alloc_new _ _, Nat.le_refl _, Nat.zero_le _, by simp, fun j hj => by simp at hj, by simp⟩⟩
set_option maxRecDepth 100000 in
set_option maxHeartbeats 400000 in
theorem cloneFate_b {w : World} {oa : Option Addr} {n c : Nat} {l : List (Int × Int)} (hn : l.length = n) (h : readAt w 2 (.slice oa n c) n (fateCells l)) (hm : n ≤ 1000000000) :
    Calls Try.prog 90 #[.slice oa n c] w fun e w' => ∃ v, e = .returned v ∧ rowAt w' 99 2 v n (fateCells l) ∧ (∀ k, v.ownBlock = some k → w.heap.size ≤ k) ∧ Below w.heap.size w w' := by
  cases oa with
  | none =>
    rcases h.2 with ⟨h0, _, _, hv, hc0⟩ | ⟨g, off, c, hv, _⟩
    · simp only [Value.slice.injEq] at hv
      obtain ⟨rfl, -, rfl⟩ := hv
      obtain rfl := hc0 rfl
      subst h0
      have H := Lib.hid h
      refine (cloneFate_nil w).mono ?_
      rintro e w' ⟨rfl, rfl⟩
      exact ⟨_, rfl, ⟨H.out.1, .inl ⟨rfl, rfl⟩⟩, fun k hk => by simp [Value.ownBlock] at hk, Below.refl _ _⟩
    · simp at hv
  | some ad =>
    have hnil : ∀ W : World, (binOp .eql 65 (.slice (some ad) n c) (.slice none 0 0)).run Try.prog W = .ok (.bool false) W := fun W => by kernel_rfl
    have HS : Hid (Src Try.prog (w.alloc (.cells #[] 99)) 2 65 (.slice (some ad) n c) n (fateCells l)) := Lib.hid (Src.of_read Try.underlying65 (h.kept (fun k hl _ _ => Below.heap_alloc _ _ k hl)) (fateCells_one _))
    clear h
    go_enter Try.func90, Try.ntmps90
    go_wp2_with (at_builtin; refine wpList_append_at _ rfl (.tmp 5) (.tmp 6) 65 65 rfl 99 (.agg #[.int .i64 0, .int .i64 0]) 2 16 Try.underlying65 info_fate rfl _ 0 _ rfl (rowAt.of_row (emptyRowF w _ _)) _ n _ rfl HS.out (by unfold maxLen; omega) (by omega) ?_; intro v' w3 hr hg hown _; have HR := Lib.hid hr; have HG : Hid ((w.alloc (.cells #[] 99)).grownBy w3 (some w.heap.size)) := Lib.hid hg; have HOWN : Hid (v'.ownBlock = some w.heap.size ∨ v'.ownBlock = some (w.alloc (.cells #[] 99)).heap.size) := Lib.hid hown; clear hr hg hown)
    go_ret
    refine ⟨v', rfl, ?_, fun k hk => ?_, ?_⟩
    · have := HR.out
      rw [Nat.zero_add, List.nil_append] at this
      exact this
    · have h1 := HOWN.out
      rw [hk] at h1
      simp at h1
      omega
    · exact ((Below.refl _ _).alloc (Nat.le_refl _) _).grown HG.out (by simp) (fun k hk => by simp at hk; omega)
end Go.Proofs.Ytmkjejngnahpeaa
/- Disk: New, with any fates. -/
namespace Go.Proofs.Ytmkjejngnahpeaa
open Go Go.Maps Go.RowKit

theorem disk_newF {w w2 w3 : World} {v : Value} {l : List (Int × Int)} (hw2 : w2 = w.alloc (.map #[] 0)) (hb : Below w2.heap.size w2 w3) (hr : rowAt w3 99 2 v l.length (fateCells l)) (hv : ∀ k, v.ownBlock = some k → w2.heap.size ≤ k) :
    DiskIs (w3.alloc (.cells #[.map (some w.heap.size), v, .int .i64 0] 122)) (fun k => w.heap.size ≤ k ∧ k < w3.heap.size + 1) w3.heap.size w.heap.size v [] ⟨[], l, 0⟩ := by
  have hs2 : w2.heap.size = w.heap.size + 1 := by rw [hw2]; simp
  have hs3 := hb.size
  have hm2 : w2.ownsMap Try.prog 9 ptrElem w.heap.size 0 (.map []) := by rw [hw2]; exact World.ownsMap_made w Try.prog 9 ptrElem
  have hm3 := ownsMap_kept hm2 (hb.block w.heap.size (by omega))
  have hvb : ∀ k, v.ownBlock = some k → w.heap.size + 1 ≤ k ∧ k < w3.heap.size := fun k hk => ⟨by have := hv k hk; omega, hr.lt k hk⟩
  exact {
    files := rfl
    head := alloc_cells _ _ _
    fates := hr.kept (fun k hk => Below.heap_alloc _ _ k (hr.lt k hk))
    map := ⟨_, hm3.alloc _, Dic.empty⟩
    each := fun x hx => (by cases hx)
    apart := by
      cases ho : v.ownBlock with
      | none =>
        simp [diskBlocks, ho]
        omega
      | some k =>
        have := hvb k ho
        simp [diskBlocks, ho]
        omega
    foot := fun k hk => by
      simp only [diskBlocks, List.mem_cons, List.flatMap_nil, List.append_nil, Option.mem_toList] at hk
      rcases hk with rfl | rfl | hk
      · omega
      · omega
      · have := hvb k hk
        omega
    low := fun k hk => by simp; omega
    sorted := by simp
    names := fun f hf => by simp at hf
    few := by simp }
set_option maxHeartbeats 400000 in
theorem newF_b {w : World} {oa : Option Addr} {n c : Nat} {l : List (Int × Int)} (hn : l.length = n) (h : readAt w 2 (.slice oa n c) n (fateCells l)) (hm : n ≤ 1000000000) (hok : l.any badFate = false) :
    Calls Try.prog 23 #[.slice oa n c] w fun e w' => ∃ q, e = .returned (.tuple #[.pointer (some ⟨q, 0, none⟩), .int .i64 0]) ∧ DiskAt w' (fun k => w.heap.size ≤ k ∧ k < w'.heap.size) q ⟨[], l, 0⟩ ∧ Below w.heap.size w w' := by
  have hmm := @run_makeMap Try.prog
  go_enter Try.func23, Try.ntmps23
  go_wp2_with fail
  refine (right_b hn h hm).mono ?_
  rintro e w1 ⟨rfl, hb1⟩
  rw [hok]
  have H1 := Lib.hid (h.kept (fun k hl _ _ => hb1.block k hl))
  have HB1 := Lib.hid hb1
  clear h hb1
  go_upto_region 3 with fail
  go_wp2_with fail
  have hbm : Below w1.heap.size w1 (w1.alloc (.map #[] 0)) := (Below.refl _ _).alloc (Nat.le_refl _) _
  refine (cloneFate_b hn (H1.out.kept (fun k hl _ _ => hbm.block k hl)) hm).mono ?_
  rintro e w3 ⟨v, rfl, hr3, hv3, hb3⟩
  obtain ⟨oav, cv, rfl, _⟩ := hr3.shape
  subst hn
  have hdn := disk_newF rfl hb3 hr3 hv3
  have hs3 := hb3.size
  have HD := Lib.hid hdn
  have HB3 := Lib.hid (And.intro hb3 (And.intro hbm hs3))
  clear hr3 hv3 hb3 hbm hdn hs3
  go_wp2_with fail
  go_ret2
  have h1 := HB1.out.size
  have h3 := HB3.out.2.2
  simp at h3
  refine ⟨_, rfl, ⟨_, _, _, HD.out.wider (fun k hk => ⟨by omega, by simp; omega⟩) (fun k hk => hk.2)⟩, ?_⟩
  exact (HB1.out.trans ((HB3.out.2.1.trans (HB3.out.1.mono HB3.out.2.1.size)).mono h1)).alloc (by omega) _
end Go.Proofs.Ytmkjejngnahpeaa
