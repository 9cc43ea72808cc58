/- Disk: Remove, its walk. -/
import Derived.Test.YtmkjejngnahpeaaEp
namespace Go.Proofs.Ytmkjejngnahpeaa
open Go Go.Maps Go.RowKit

/-- a file with a lasting name is taken away -/
theorem set_gone {w w2 : World} {S : Nat → Prop} {q mb : Nat} {fv' : Value} {A B : List Fl} {x : Fl} {d1 : Dk} (ho : Only (fun k => k = q) w w2) (h2 : DiskIs w2 S q mb fv' (A ++ x :: B) d1) {oa : Option Addr} {c l : Nat} (hbv : x.bv = .slice oa x.f.bytes.length c) (hl : x.f.lasts = l)
    {s : List UInt8} {t : F0 → F0} (hs : x.f.name = s) (ht : t x.f = { x.f with bytes := x.f.bytes.take x.f.lasts, there := false }) (n : Int) :
    OpIs w S q (n, d1.turn s t) (.returned (.int .i64 n)) ((w2.setCell ⟨x.blk, 2, none⟩ (.bool false)).setCell ⟨x.blk, 0, none⟩ (.slice oa l l)).drew := by
  subst hl
  have hx := h2.each x (by simp)
  have hset : Only (fun k => k = x.blk) w2 ((w2.setCell ⟨x.blk, 2, none⟩ (.bool false)).setCell ⟨x.blk, 0, none⟩ (.slice oa x.f.lasts x.f.lasts)).drew :=
    only_drew ((only_setCell (fun k => k = x.blk) w2 x.blk 2 _ rfl).trans (only_setCell (fun k => k = x.blk) _ x.blk 0 _ rfl) (fun _ _ h => h))
  have hown : (Value.slice oa x.f.lasts x.f.lasts).ownBlock = x.bv.ownBlock := by
    rw [hbv]
    cases oa with
    | none => rfl
    | some a => rfl
  have hrow := hx.row
  rw [hbv] at hrow
  have hr2 := hrow.cap x.f.lasts hx.lasts
  rw [Nat.mul_one, byteCells_take] at hr2
  have hlen : (x.f.bytes.take x.f.lasts).length = x.f.lasts := by have := hx.lasts; rw [List.length_take]; omega
  refine file_done (x' := ⟨{ x.f with bytes := x.f.bytes.take x.f.lasts, there := false }, x.blk, .slice oa x.f.lasts x.f.lasts⟩) ho h2 (hset.mono (fun i _ hi => by rw [hi]; simp [Fl.blocks])) rfl rfl ⟨?_, ?_, ?_, ?_⟩ (fun i hi => .inl (by rw [← hown]; exact hi)) hs ht.symm n
  · exact heap_setCell_here (w := w2.setCell ⟨x.blk, 2, none⟩ (.bool false)) _ (heap_setCell_here (w := w2) _ hx.cells)
  · show rowAt _ _ 1 _ (x.f.bytes.take x.f.lasts).length (byteCells (x.f.bytes.take x.f.lasts))
    rw [hlen]
    exact hr2.kept (fun i hi => hset.block i (hr2.lt i hi) (FlAt.own_ne h2 i (by rw [← hown]; exact hi)))
  · show x.f.lasts ≤ (x.f.bytes.take x.f.lasts).length
    omega
  · show (x.f.bytes.take x.f.lasts).length ≤ 16777216
    have := hx.size
    have := hx.lasts
    omega
set_option maxRecDepth 100000 in
set_option maxHeartbeats 1000000 in
theorem remove_b {w : World} {S : Nat → Prop} {q : Nat} {d : Dk} (h : DiskAt w S q d) (nm : ByteArray) (hs : nm.size ≤ maxLen) :
    Calls Try.prog 50 #[.pointer (some ⟨q, 0, none⟩), .string nm] w fun e w' => OpIs w S q (d.remove nm.data.toList) e w' := by
  obtain ⟨mb, fv, L, h⟩ := h
  go_enter Try.func50, Try.ntmps50
  go_wp2_with fail
  refine (find_b h nm hs).mono ?_
  rintro e w' ⟨hF, rfl⟩
  rcases hF with ⟨hn, rfl⟩ | ⟨hn, hf, rfl⟩ | ⟨hn, A, x, B, rfl, hxn, hxt, hf, rfl⟩
  · have HO : Hid (OpIs w' S q (d.remove nm.data.toList) (.returned (.int .i64 2)) w') := Lib.hid (by
      rw [show d.remove nm.data.toList = (2, d) by simp [Dk.remove, hn]]
      exact OpIs.same h 2)
    clear h hn
    go_wp2_with fail
    go_ret
    exact HO.out
  · have HO : Hid (OpIs w' S q (d.remove nm.data.toList) (.returned (.int .i64 171)) w') := Lib.hid (by
      rw [show d.remove nm.data.toList = (171, d) by simp [Dk.remove, hn, hf]]
      exact OpIs.same h 171)
    clear h hn hf
    go_wp2_with fail
    go_ret
    exact HO.out
  · have H := Lib.hid h
    have HN := Lib.hid (And.intro hn hf)
    clear h hn hf
    go_wp2_with fail
    refine (step_b H.out).mono ?_
    rintro e w1 ⟨kd, kp, fv', rfl, hkp, h1, ho1⟩
    obtain ⟨er, her⟩ : ∃ er, d.fate.1 = er := ⟨_, rfl⟩
    rw [her]
    have H1 := Lib.hid h1
    have HO1 := Lib.hid ho1
    have HE := Lib.hid her
    clear h1 ho1 hkp her
    go_upto_region 5 with fail
    obtain ⟨w2, hw2⟩ : ∃ w2 : World, w2 = w1.alloc (.cells #[.int .i64 kd, .int .i64 kp] 99) := ⟨_, rfl⟩
    obtain ⟨r, hr⟩ : ∃ r, r = w1.heap.size := ⟨_, rfl⟩
    have h2 : DiskIs w2 S q mb fv' (A ++ x :: B) d.next := by rw [hw2]; exact H1.out.below ((Below.refl _ _).alloc (Nat.le_refl _) _)
    have ho2 : Only (fun k => k = q) w' w2 := by rw [hw2]; exact HO1.out.trans (only_alloc (fun k => k = q) _ _) (fun _ _ h => h)
    rw [← hw2, ← hr]
    clear hw2 hr H1 HO1
    by_cases h0 : er = 0
    · subst h0
      have hx := h2.each x (by simp)
      have hxc := hx.cells
      obtain ⟨nd, hnd⟩ : ∃ nd, x.f.named = nd := ⟨_, rfl⟩
      have k3 : w2.cell? ⟨x.blk, 3, none⟩ = some (.bool nd) := by rw [← hnd]; exact cell_of hxc rfl
      cases nd with
      | false =>
        have c0 : w2.cell? ⟨q, 0, none⟩ = some (.map (some mb)) := cell_of h2.head rfl
        obtain ⟨D, hown, hdsz, hdic⟩ := h2.look
        have HOWN := Lib.hid (And.intro hown hdic)
        have HKEY : Hid (keyOf Try.prog 9 (.string nm) = some (.string nm.data.toList)) := Lib.hid (WideMaps.keyOf_string_mk (P := Try.prog) Try.underlying9 hs)
        have H2 := Lib.hid h2
        have HO2 := Lib.hid ho2
        have HND := Lib.hid hnd
        clear h2 ho2 hx hxc hown hdsz hdic hnd
        go_wp2_with (at_delete; refine wpList_delete_own _ rfl _ _ 120 9 rfl 176 (string_keyed Try.underlying9) Try.underlying120 ptrElem mb _ D rfl HOWN.out.1 _ _ rfl HKEY.out ?_; intro w3 hown3 hturn3; have HW3 := Lib.hid (And.intro hown3 hturn3); clear hown3 hturn3)
        go_ret
        have h3 := set_drop (d := d) HO2.out H2.out HOWN.out.2 HW3.out.2 HW3.out.1 hxn rfl
        have e : d.remove nm.data.toList = (0, { d.next with files := d.files.filter fun f => f.name != nm.data.toList }) := by
          unfold Dk.remove
          rw [HN.out.1, HN.out.2]
          simp only [HE.out, HND.out]
          rw [if_neg (by simp), if_neg (by simp), if_neg (by simp)]
        rw [e]
        exact h3
      | true =>
        obtain ⟨oaf, cf, hbv, hnc⟩ := hx.row.shape
        obtain ⟨N, hnn⟩ : ∃ N, x.f.bytes.length = N := ⟨_, rfl⟩
        obtain ⟨l, hll⟩ : ∃ l, x.f.lasts = l := ⟨_, rfl⟩
        have hlN : l ≤ N := by rw [← hnn, ← hll]; exact hx.lasts
        have hxr := hx.row
        rw [hbv, hnn] at hxr
        obtain ⟨hm0, hNc⟩ := hxr.map0
        rw [hbv, hnn, hll, hxt, hnd] at hxc
        have hsl : ∀ W : World, (Instr.slice 79 (.slice oaf N cf) none (some (.int .i64 (l : Int))) (some (.int .i64 (l : Int)))).run Try.prog W = .ok (.slice oaf l l) W := fun W => run_both oaf N cf l (by omega) hm0 W
        have k2 : w2.cell? ⟨x.blk, 2, none⟩ = some (.bool true) := cell_of hxc rfl
        have z2 : w2.frozen? ⟨x.blk, 2, none⟩ = false := free_of hxc _
        have HO : Hid (OpIs w' S q (d.remove nm.data.toList) (.returned (.int .i64 0)) ((w2.setCell ⟨x.blk, 2, none⟩ (.bool false)).setCell ⟨x.blk, 0, none⟩ (.slice oaf l l)).drew) := Lib.hid (by
          have h3 := set_gone ho2 h2 (oa := oaf) (c := cf) hbv hll (s := nm.data.toList) (t := fun f => { f with bytes := f.bytes.take f.lasts, there := false }) hxn rfl 0
          have e : d.remove nm.data.toList = (0, d.next.turn nm.data.toList fun f => { f with bytes := f.bytes.take f.lasts, there := false }) := by
            unfold Dk.remove
            rw [HN.out.1, HN.out.2]
            simp only [HE.out, hnd]
            rw [if_neg (by simp), if_neg (by simp), if_pos trivial]
          rw [e]
          exact h3)
        have hc3 := heap_setCell_here (i := 2) (.bool false) hxc
        clear h2 ho2 hx hxr hm0 hbv hnn hll hnc hnd
        go_upto_region 11 with fail
        obtain ⟨w3, hw3⟩ : ∃ w3 : World, w3 = w2.setCell ⟨x.blk, 2, none⟩ (.bool false) := ⟨_, rfl⟩
        rw [← hw3] at HO hc3 ⊢
        have k0 : w3.cell? ⟨x.blk, 0, none⟩ = some (.slice oaf N cf) := cell_of hc3 rfl
        have z0 : w3.frozen? ⟨x.blk, 0, none⟩ = false := free_of hc3 _
        have k1 : w3.cell? ⟨x.blk, 1, none⟩ = some (.int .i64 l) := cell_of hc3 rfl
        clear hw3 hc3 hxc k2 z2 k3
        go_region
        go_wp2_with fail
        go_ret
        exact HO.out
    · have hb0 : (er != 0) = true := by simpa using h0
      have HO : Hid (OpIs w' S q (d.remove nm.data.toList) (.returned (.int .i64 er)) w2) := Lib.hid (by
        rw [show d.remove nm.data.toList = (er, d.next) by
          unfold Dk.remove
          rw [HN.out.1, HN.out.2]
          simp only [HE.out]
          rw [if_neg (by simp), if_pos h0]]
        exact OpIs.next ho2 h2 er)
      clear h0 h2 ho2
      go_wp2_with fail
      go_ret
      exact HO.out
end Go.Proofs.Ytmkjejngnahpeaa
