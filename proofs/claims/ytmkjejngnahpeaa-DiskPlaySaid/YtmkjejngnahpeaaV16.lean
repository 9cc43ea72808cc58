/- The texts Zk, Zm, Zt in one. -/
import Derived.Test.YtmkjejngnahpeaaV7
import Derived.Test.YtmkjejngnahpeaaV3
import Derived.Test.YtmkjejngnahpeaaV14
import Derived.Test.YtmkjejngnahpeaaV5
import Derived.Test.YtmkjejngnahpeaaV15
import Derived.Test.YtmkjejngnahpeaaV9
import Derived.Test.YtmkjejngnahpeaaV6
/- The document's disk: Cut. -/
namespace Go.Proofs.Ytmkjejngnahpeaa
open Go Go.Maps Go.RowKit
open Go.Proofs (encStr)

/-- two cells of a block, in either order -/
theorem heap_two {w : World} {g a b : Nat} (v u : Value) {cs : Array Value} {T : TypeId} {fr : Nat × Nat} (hab : a ≠ b) (h : w.heap[g]? = some (.cells cs T fr)) (k : Nat) : ((w.setCell ⟨g, a, none⟩ v).setCell ⟨g, b, none⟩ u).heap[k]? = ((w.setCell ⟨g, b, none⟩ u).setCell ⟨g, a, none⟩ v).heap[k]? := by
  by_cases hk : k = g
  · subst hk
    rw [heap_setCell_here _ (heap_setCell_here _ h), heap_setCell_here _ (heap_setCell_here _ h), Array.setIfInBounds_comm _ _ hab]
  · rw [Below.heap_setCell _ _ _ _ hk, Below.heap_setCell _ _ _ _ hk, Below.heap_setCell _ _ _ _ hk, Below.heap_setCell _ _ _ _ hk]
set_option maxRecDepth 100000 in
set_option maxHeartbeats 1000000 in
theorem refCut_b {w : World} {S : Nat → Prop} {p : Nat} {d : Dk} (h : RfAt w S p d) (nm : ByteArray) (hs : nm.size ≤ maxLen) (n : Int) :
    Calls Try.prog 59 #[.pointer (some ⟨p, 0, none⟩), .string nm, .int .i64 n] w fun e w' => ROpIs w S p (d.cut nm.data.toList n) e w' := by
  obtain ⟨rv, fv, h⟩ := h
  obtain ⟨s, hss⟩ : ∃ s, nm.data.toList = s := ⟨_, rfl⟩
  have H := Lib.hid h
  have HSS := Lib.hid hss
  clear h
  go_enter Try.func59, Try.ntmps59
  go_wp2_with fail
  refine (refFind_b H.out nm hs).mono ?_
  rintro e w' ⟨hF, hw'⟩
  obtain rfl := hw'.symm
  rw [hss] at hF
  clear hss
  rcases hF with ⟨hn, rfl⟩ | ⟨hn, hf, rfl⟩ | ⟨hn, i, hi, hxn, hxt, hf, rfl⟩
  · have HE : Hid (ROpIs w S p (d.cut s n) (.returned (.int .i64 2)) w) := Lib.hid (by
      rw [show d.cut s n = (2, d) by simp [Dk.cut, hn]]
      exact rop_same H.out (Only.refl _ _) rfl)
    clear hn
    go_wp2_with fail
    go_ret
    rw [HSS.out]
    exact HE.out
  · have HE : Hid (ROpIs w S p (d.cut s n) (.returned (.int .i64 171)) w) := Lib.hid (by
      rw [show d.cut s n = (171, d) by simp [Dk.cut, hn, hf]]
      exact rop_same H.out (Only.refl _ _) rfl)
    clear hn hf
    go_wp2_with fail
    go_ret
    rw [HSS.out]
    exact HE.out
  · obtain ⟨oa, c, rfl, hnc⟩ := H.out.files.shape
    obtain ⟨N, hN⟩ : ∃ N, d.files.length = N := ⟨_, rfl⟩
    obtain ⟨x, hx⟩ : ∃ x, d.files[i] = x := ⟨_, rfl⟩
    have hrow := H.out.files
    rw [hN] at hrow
    have hiN : i < N := by omega
    obtain ⟨g, off, rfl⟩ := hrow.addr (by omega)
    obtain ⟨bs, hbs⟩ : ∃ a : ByteArray, a = ⟨x.bytes.toArray⟩ := ⟨_, rfl⟩
    have hbl : bs.size = x.bytes.length := by rw [hbs]; simp [ByteArray.size]
    have c0 : w.cell? ⟨p, 0, none⟩ = some (.slice (some ⟨g, off, none⟩) N c) := cell_of H.out.head (by rw [← hN]; rfl)
    have k1 : w.cell? ⟨g, off + i * 5 + 1, none⟩ = some (.string bs) := rf_cell (i := 1) hrow hi (by omega) (by rw [hx, hbs]; rfl)
    have HX := Lib.hid (And.intro hn (And.intro hxn (And.intro hxt (And.intro (by rw [← hx]; exact hf : d.find s = some x) (And.intro hx (And.intro hbs (And.intro hbl hN)))))))
    clear hn hxn hxt hf hx hbs hbl hN hrow hnc
    by_cases hneg : n < 0
    · have dn : decide (n < 0) = true := decide_eq_true hneg
      have HE : Hid (ROpIs w S p (d.cut s n) (.returned (.int .i64 4)) w) := Lib.hid (by
        rw [show d.cut s n = (4, d) by
          unfold Dk.cut
          rw [if_neg (by rw [HX.out.1]; simp), HX.out.2.2.2.1]
          exact if_pos (.inl hneg)]
        exact rop_same H.out (Only.refl _ _) rfl)
      clear hneg
      go_wp2_with fail
      go_ret
      rw [HSS.out]
      exact HE.out
    have dn : decide (n < 0) = false := decide_eq_false hneg
    by_cases hbig : (bs.size : Int) < n
    · have db : decide ((bs.size : Int) < n) = true := decide_eq_true hbig
      have HE : Hid (ROpIs w S p (d.cut s n) (.returned (.int .i64 4)) w) := Lib.hid (by
        rw [show d.cut s n = (4, d) by
          unfold Dk.cut
          rw [if_neg (by rw [HX.out.1]; simp), HX.out.2.2.2.1]
          exact if_pos (.inr (by rw [← HX.out.2.2.2.2.2.2.1]; exact hbig))]
        exact rop_same H.out (Only.refl _ _) rfl)
      clear hbig
      go_wp2_with fail
      go_ret
      rw [HSS.out]
      exact HE.out
    have db : decide ((bs.size : Int) < n) = false := decide_eq_false hbig
    obtain ⟨m, rfl⟩ : ∃ m : Nat, n = (m : Int) := ⟨n.toNat, by omega⟩
    have HM : Hid (m ≤ bs.size) := Lib.hid (by omega)
    have db2 : decide (bs.size < m) = false := decide_eq_false (by omega)
    clear dn db
    have dn : decide ((m : Int) < 0) = false := decide_eq_false (by omega)
    clear hneg hbig
    go_wp2_with fail
    refine (refStep_b H.out).mono ?_
    rintro e w2 ⟨kp, fv2, rfl, hkp, h2, ho2⟩
    obtain ⟨er, her⟩ : ∃ n, d.fate.1 = n := ⟨_, rfl⟩
    rw [her] at hkp ⊢
    have hcut : d.cut s (m : Int) = if er ≠ 0 then (er, d.next) else (0, d.next.turn s fun f => { f with bytes := f.bytes.take m, lasts := min f.lasts m }) := by
      unfold Dk.cut
      rw [if_neg (by rw [HX.out.1]; simp), HX.out.2.2.2.1]
      show (if _ then _ else _) = _
      rw [if_neg (by have := HM.out; have := HX.out.2.2.2.2.2.2.1; omega), her]
      rfl
    by_cases h0 : er = 0
    · subst h0
      have hf0 : d.next.files = d.files := rfl
      have hx := HX.out.2.2.2.2.1
      have hsz := h2.sizes x (by rw [hf0, ← hx]; exact List.getElem_mem hi)
      have hN := HX.out.2.2.2.2.2.2.2
      have hrow2 := h2.files
      rw [hf0, hN] at hrow2
      obtain ⟨la, hla⟩ : ∃ a : Int, a = (x.lasts : Int) := ⟨_, rfl⟩
      have hsl : ∀ W : World, (Instr.slice 9 (.string bs) none (some (.int .i64 (m : Int))) none).run Try.prog W = .ok (.string (bs.extract 0 m)) W := run_str_take Try.underlying9 bs m HM.out
      have HR : Hid (rowAt w2 200 5 (.slice (some ⟨g, off, none⟩) N c) N (rfCells d.files)) := Lib.hid hrow2
      have c2 : w2.cell? ⟨p, 0, none⟩ = some (.slice (some ⟨g, off, none⟩) N c) := cell_of h2.head (by rw [← hN]; rfl)
      have k12 : w2.cell? ⟨g, off + i * 5 + 1, none⟩ = some (.string bs) := rf_cell (i := 1) hrow2 hi (by omega) (by rw [hx, HX.out.2.2.2.2.2.1]; rfl)
      have k22 : w2.cell? ⟨g, off + i * 5 + 2, none⟩ = some (.int .i64 la) := rf_cell (i := 2) hrow2 hi (by omega) (by rw [hx, hla]; rfl)
      have z12 : w2.frozen? ⟨g, off + i * 5 + 1, none⟩ = false := by have := hrow2.freeAt (j := i * 5 + 1) (by omega); rwa [← Nat.add_assoc] at this
      have z22 : w2.frozen? ⟨g, off + i * 5 + 2, none⟩ = false := by have := hrow2.freeAt (j := i * 5 + 2) (by omega); rwa [← Nat.add_assoc] at this
      have hN4 : N ≤ 4096 := by rw [← hN]; exact h2.few
      have hgp : p ≠ g := fun e => h2.rp g rfl e.symm
      have hg2 := (Array.getElem?_eq_some_iff.1 h2.head).1
      have HZ := Lib.hid (And.intro h2 (And.intro ho2 (And.intro hsz (And.intro hla (And.intro hgp hcut)))))
      clear hx hsz hN hrow2 hla hkp hcut h2 ho2 hf0 her
      go_wp2_with fail
      go_region
      obtain ⟨yb, hyb⟩ : ∃ y, y = bs.extract 0 m := ⟨_, rfl⟩
      rw [← hyb]
      have hyt : yb = ⟨(x.bytes.take m).toArray⟩ := by rw [hyb, HX.out.2.2.2.2.2.1, extract_take]
      have hr5 := HR.out.setAt (j := i * 5 + 1) (by omega) (.string yb)
      rw [← Nat.add_assoc] at hr5
      obtain ⟨w5, hw5⟩ : ∃ W : World, W = (w2.setCell ⟨g, off + i * 5 + 1, none⟩ (.string yb)).drew := ⟨_, rfl⟩
      have d0 : w5.cell? ⟨p, 0, none⟩ = some (.slice (some ⟨g, off, none⟩) N c) := by
        rw [hw5]
        exact cell_of (((only_setCell (fun k => k = g) w2 g (off + i * 5 + 1) (.string yb) rfl).block p hg2 HZ.out.2.2.2.2.1).trans HZ.out.1.head) (by rw [← HX.out.2.2.2.2.2.2.2]; rfl)
      have d2 : w5.cell? ⟨g, off + i * 5 + 2, none⟩ = some (.int .i64 la) := by
        rw [hw5]
        have := hr5.cells (g := g) (off := off) rfl (i * 5 + 2) (.int .i64 la) (by
          rw [List.getElem?_set_ne (by omega), rfCells_get hi (by omega), HX.out.2.2.2.2.1, HZ.out.2.2.2.1]
          rfl)
        simpa [Go.WideShapes.add_plain, Nat.add_assoc] using this
      have y2 : w5.frozen? ⟨g, off + i * 5 + 2, none⟩ = false := by
        rw [hw5]
        have := hr5.freeAt (j := i * 5 + 2) (by omega)
        rwa [← Nat.add_assoc] at this
      have HW5 := Lib.hid (And.intro hw5 hyt)
      rw [← hw5]
      clear hw5 hyb hyt hr5 hsl k12 k22 z12 z22 c2 c0 k1 HR
      go_wp2_with fail
      go_region
      obtain ⟨w6, hw6⟩ : ∃ W : World, W = (w5.setCell ⟨g, off + i * 5 + 2, none⟩ (.int .i64 (min la (m : Int)))).drew := ⟨_, rfl⟩
      rw [← hw6]
      have hsz := HZ.out.2.2.1
      have hx := HX.out.2.2.2.2.1
      have hle := HM.out
      have hbl := HX.out.2.2.2.2.2.2.1
      have h3 := HZ.out.1.file_set (i := i) (k := 2) (v := .int .i64 (min la (m : Int))) (f' := { x with lasts := min x.lasts m }) hi rfl (by omega)
        (by show rfFile _ = (rfFile d.files[i]).set 2 _; rw [hx, HZ.out.2.2.2.1, show min (x.lasts : Int) (m : Int) = ((min x.lasts m : Nat) : Int) by omega]; rfl) (by show x.name = d.files[i].name; rw [hx]) ⟨by show min x.lasts m ≤ x.bytes.length; omega, hsz.2⟩
      have e1 : (d.files.set i { x with lasts := min x.lasts m })[i]'(by simpa using hi) = { x with lasts := min x.lasts m } := List.getElem_set_self _
      have h4 := h3.file_set (i := i) (k := 1) (v := .string yb) (f' := { x with bytes := x.bytes.take m, lasts := min x.lasts m }) (by show i < (d.files.set i _).length; rw [List.length_set]; exact hi) rfl (by omega)
        (by show rfFile _ = (rfFile ((d.files.set i { x with lasts := min x.lasts m })[i]'(by simpa using hi))).set 1 _; rw [e1, HW5.out.2]; rfl) (by show x.name = ((d.files.set i { x with lasts := min x.lasts m })[i]'(by simpa using hi)).name; rw [e1]) ⟨by show min x.lasts m ≤ (x.bytes.take m).length; rw [List.length_take]; omega, by show (x.bytes.take m).length ≤ _; rw [List.length_take]; omega⟩
      obtain ⟨cs, fr, hbg⟩ : ∃ cs fr, w2.heap[g]? = some (.cells cs 200 fr) := by
        have hrw := HZ.out.1.files
        rcases hrw.2 with ⟨e, -⟩ | ⟨g2, off2, c3, cur, fr, hv, h5, -⟩
        · cases e
        · simp only [Value.slice.injEq, Option.some.injEq, Addr.mk.injEq, and_true] at hv
          obtain ⟨⟨rfl, rfl⟩, -⟩ := hv
          exact ⟨_, _, h5⟩
      have hk : ∀ k, w6.heap[k]? = ((w2.setCell ⟨g, off + (i * 5 + 2), none⟩ (.int .i64 (min la (m : Int)))).setCell ⟨g, off + (i * 5 + 1), none⟩ (.string yb)).heap[k]? := fun k => by
        rw [hw6, HW5.out.1, ← Nat.add_assoc, ← Nat.add_assoc]
        exact heap_two (.string yb) (.int .i64 (min la (m : Int))) (by omega) hbg k
      have h5 := h4.kept (w' := w6) (fun k _ => hk k) (by rw [hw6, HW5.out.1]; simp [World.setCell, World.drew])
      have ho : Only S w w6 := by
        refine (only_p HZ.out.2.1 H.out.footp).trans (only_r (v := .slice (some ⟨g, off, none⟩) d.files.length c) (g := g) ?_ rfl H.out.footr) (fun _ _ h => h)
        rw [hw6, HW5.out.1]
        exact only_drew ((only_drew (only_setCell (fun k => k = g) _ _ _ _ rfl)).trans (only_setCell (fun k => k = g) _ _ _ _ rfl) (fun _ _ h => h))
      have HE : Hid (ROpIs w S p (d.cut s (m : Int)) (.returned (.int .i64 0)) w6) := Lib.hid (by
        rw [HZ.out.2.2.2.2.2, if_neg (by simp)]
        refine rop_same h5 ho ?_
        unfold Dk.turn
        rw [turn_set HZ.out.1.sorted (i := i) hi HX.out.2.1, List.set_set]
        simp only [show d.next.files = d.files from rfl, hx])
      clear hw6 hsz hx hle hbl h3 e1 h4 hbg hk h5 ho
      go_wp2_with fail
      go_ret
      rw [HSS.out]
      exact HE.out
    · have hne : (er != 0) = true := by simpa using h0
      have HE : Hid (ROpIs w S p (d.cut s (m : Int)) (.returned (.int .i64 er)) w2) := Lib.hid (by
        rw [hcut, if_pos h0]
        exact rop_same h2 (only_p ho2 H.out.footp) rfl)
      clear hcut h0 hkp
      go_wp2_with fail
      go_ret
      rw [HSS.out]
      exact HE.out
end Go.Proofs.Ytmkjejngnahpeaa
/- The document's disk: File. -/
namespace Go.Proofs.Ytmkjejngnahpeaa
open Go Go.Maps Go.RowKit
open Go.Proofs (encStr)

/-- a box of five cells is written whole -/
theorem box_five {n : Nat} {w w1 : World} {b : Nat} {c0 c1 c2 c3 c4 : Value} {T : TypeId} (v0 v1 v2 v3 v4 : Value) (h : w1.heap[b]? = some (.cells #[c0, c1, c2, c3, c4] T (0, 0))) (hb : Below n w w1) (hlo : n ≤ b) :
    (((((w1.setCell ⟨b, 0, none⟩ v0).setCell ⟨b, 1, none⟩ v1).setCell ⟨b, 2, none⟩ v2).setCell ⟨b, 3, none⟩ v3).setCell ⟨b, 4, none⟩ v4).heap[b]? = some (.cells #[v0, v1, v2, v3, v4] T (0, 0)) ∧
    Below n w (((((w1.setCell ⟨b, 0, none⟩ v0).setCell ⟨b, 1, none⟩ v1).setCell ⟨b, 2, none⟩ v2).setCell ⟨b, 3, none⟩ v3).setCell ⟨b, 4, none⟩ v4) :=
  ⟨heap_setCell_here _ (heap_setCell_here _ (heap_setCell_here _ (heap_setCell_here _ (heap_setCell_here _ h)))),
    ((((hb.setCell (p := ⟨b, 0, none⟩) hlo _).setCell (p := ⟨b, 1, none⟩) hlo _).setCell (p := ⟨b, 2, none⟩) hlo _).setCell (p := ⟨b, 3, none⟩) hlo _).setCell (p := ⟨b, 4, none⟩) hlo _⟩
set_option maxRecDepth 100000 in
set_option maxHeartbeats 1000000 in
theorem refFile_b {w : World} {S : Nat → Prop} {p : Nat} {d : Dk} (h : RfAt w S p d) (nm : ByteArray) (hs : nm.size ≤ maxLen) :
    Calls Try.prog 63 #[.pointer (some ⟨p, 0, none⟩), .string nm] w fun e w' => e = .returned (.tuple #[(d.fileV nm).1, .int .i64 (d.fileV nm).2]) ∧ Below w.heap.size w w' := by
  obtain ⟨rv, fv, h⟩ := h
  obtain ⟨w1, hw1⟩ : ∃ V : World, V = w.alloc (.cells #[.string ⟨#[]⟩, .int .i64 0, .int .i64 0, .bool false, .bool false] 78) := ⟨_, rfl⟩
  obtain ⟨b4, hb4⟩ : ∃ b, b = w.heap.size := ⟨_, rfl⟩
  have g4 : w1.heap[b4]? = some (.cells #[.string ⟨#[]⟩, .int .i64 0, .int .i64 0, .bool false, .bool false] 78 (0, 0)) := by rw [hw1, hb4]; exact alloc_cells _ _ _
  have hb1 : Below w.heap.size w w1 := by rw [hw1]; exact (Below.refl _ _).alloc (Nat.le_refl _) _
  have h1 := h.kept (w' := w1) (fun k hk => hb1.block k (h.low k hk)) hb1.size
  have H := Lib.hid (And.intro h1 (And.intro g4 (And.intro hb1 (show w.heap.size ≤ b4 by omega))))
  clear h g4 hb1 h1
  go_enter Try.func63, Try.ntmps63
  go_upto_region 1 with fail
  rw [← hw1, ← hb4]
  clear hw1 hb4
  have r0 : w1.cell? ⟨b4, 0, none⟩ = some (.string ⟨#[]⟩) := cell_of H.out.2.1 rfl
  have r1 : w1.cell? ⟨b4, 1, none⟩ = some (.int .i64 0) := cell_of H.out.2.1 rfl
  have r2 : w1.cell? ⟨b4, 2, none⟩ = some (.int .i64 0) := cell_of H.out.2.1 rfl
  have r3 : w1.cell? ⟨b4, 3, none⟩ = some (.bool false) := cell_of H.out.2.1 rfl
  have r4 : w1.cell? ⟨b4, 4, none⟩ = some (.bool false) := cell_of H.out.2.1 rfl
  have z0 : w1.frozen? ⟨b4, 0, none⟩ = false := free_of H.out.2.1 _
  have z1 : w1.frozen? ⟨b4, 1, none⟩ = false := free_of H.out.2.1 _
  have z2 : w1.frozen? ⟨b4, 2, none⟩ = false := free_of H.out.2.1 _
  have z3 : w1.frozen? ⟨b4, 3, none⟩ = false := free_of H.out.2.1 _
  have z4 : w1.frozen? ⟨b4, 4, none⟩ = false := free_of H.out.2.1 _
  go_wp2_with fail
  refine (refNamed_any nm w1 hs).mono ?_
  rintro e w' ⟨rfl, hw'⟩
  obtain rfl := hw'.symm
  clear hw'
  obtain ⟨nk, hnk⟩ : ∃ b, nameOk nm.data.toList = b := ⟨_, rfl⟩
  rw [hnk]
  cases nk
  · have HV : Hid (d.fileV nm = (.agg #[.string ⟨#[]⟩, .int .i64 0, .int .i64 0, .bool false, .bool false], 2)) := Lib.hid (by unfold Dk.fileV; rw [if_pos hnk])
    clear hnk
    go_wp2_with fail
    obtain ⟨hr2, hb2⟩ := box_five (.string ⟨#[]⟩) (.int .i64 0) (.int .i64 0) (.bool false) (.bool false) H.out.2.1 H.out.2.2.1 H.out.2.2.2
    generalize hw2 : World.setCell (World.setCell (World.setCell (World.setCell (World.setCell _ _ _) _ _) _ _) _ _) _ _ = w2 at hr2 hb2 ⊢
    have s0 : w2.cell? ⟨b4, 0, none⟩ = some (.string ⟨#[]⟩) := cell_of hr2 rfl
    have s1 : w2.cell? ⟨b4, 1, none⟩ = some (.int .i64 0) := cell_of hr2 rfl
    have s2 : w2.cell? ⟨b4, 2, none⟩ = some (.int .i64 0) := cell_of hr2 rfl
    have s3 : w2.cell? ⟨b4, 3, none⟩ = some (.bool false) := cell_of hr2 rfl
    have s4 : w2.cell? ⟨b4, 4, none⟩ = some (.bool false) := cell_of hr2 rfl
    exact bodyPost_ret (v := .tuple #[.agg #[.string ⟨#[]⟩, .int .i64 0, .int .i64 0, .bool false, .bool false], .int .i64 2]) (by simp [results, Try.results63, go_sem, s0, s1, s2, s3, s4]) rfl ⟨by rw [HV.out], hb2⟩
  · have hD := refAt_b H.out.1 nm
    have HK := Lib.hid hnk
    clear hnk
    go_wp2_with fail
    refine hD.mono ?_
    rintro e w' ⟨hp, hw'⟩
    obtain rfl := hw'.symm
    clear hw' hD
    rcases hp with ⟨hn, rfl⟩ | ⟨i, hi, hin, ha, rfl⟩
    · have HV : Hid (d.fileV nm = (.agg #[.string ⟨#[]⟩, .int .i64 0, .int .i64 0, .bool false, .bool false], 171)) := Lib.hid (by unfold Dk.fileV; rw [if_neg (by rw [HK.out]; simp), hn])
      clear hn
      go_wp2_with fail
      obtain ⟨hr2, hb2⟩ := box_five (.string ⟨#[]⟩) (.int .i64 0) (.int .i64 0) (.bool false) (.bool false) H.out.2.1 H.out.2.2.1 H.out.2.2.2
      generalize hw2 : World.setCell (World.setCell (World.setCell (World.setCell (World.setCell _ _ _) _ _) _ _) _ _) _ _ = w2 at hr2 hb2 ⊢
      have s0 : w2.cell? ⟨b4, 0, none⟩ = some (.string ⟨#[]⟩) := cell_of hr2 rfl
      have s1 : w2.cell? ⟨b4, 1, none⟩ = some (.int .i64 0) := cell_of hr2 rfl
      have s2 : w2.cell? ⟨b4, 2, none⟩ = some (.int .i64 0) := cell_of hr2 rfl
      have s3 : w2.cell? ⟨b4, 3, none⟩ = some (.bool false) := cell_of hr2 rfl
      have s4 : w2.cell? ⟨b4, 4, none⟩ = some (.bool false) := cell_of hr2 rfl
      exact bodyPost_ret (v := .tuple #[.agg #[.string ⟨#[]⟩, .int .i64 0, .int .i64 0, .bool false, .bool false], .int .i64 171]) (by simp [results, Try.results63, go_sem, s0, s1, s2, s3, s4]) rfl ⟨by rw [HV.out], hb2⟩
    · obtain ⟨oa, c, rfl, hnc⟩ := H.out.1.files.shape
      obtain ⟨N, hN⟩ : ∃ N, d.files.length = N := ⟨_, rfl⟩
      obtain ⟨x, hx⟩ : ∃ x, d.files[i] = x := ⟨_, rfl⟩
      have hrow := H.out.1.files
      rw [hN] at hrow
      have hiN : i < N := by omega
      obtain ⟨g, off, rfl⟩ := hrow.addr (by omega)
      obtain ⟨bs, hbs⟩ : ∃ a : ByteArray, a = ⟨x.bytes.toArray⟩ := ⟨_, rfl⟩
      have hbl : (bs.size : Int) = (x.bytes.length : Int) := by rw [hbs]; simp [ByteArray.size]
      have hnx : nm = ⟨x.name.toArray⟩ := by rw [← hx, hin]
      obtain ⟨la, hla⟩ : ∃ a : Int, a = (x.lasts : Int) := ⟨_, rfl⟩
      obtain ⟨th, hth⟩ : ∃ a, a = x.there := ⟨_, rfl⟩
      obtain ⟨na, hna⟩ : ∃ a, a = x.named := ⟨_, rfl⟩
      have c0 : w1.cell? ⟨p, 0, none⟩ = some (.slice (some ⟨g, off, none⟩) N c) := cell_of H.out.1.head (by rw [← hN]; rfl)
      have k0 : w1.cell? ⟨g, off + i * 5 + 0, none⟩ = some (.string nm) := rf_cell (i := 0) hrow hi (by omega) (by rw [hx, hnx]; rfl)
      rw [Nat.add_zero] at k0
      have k1 : w1.cell? ⟨g, off + i * 5 + 1, none⟩ = some (.string bs) := rf_cell (i := 1) hrow hi (by omega) (by rw [hx, hbs]; rfl)
      have k2 : w1.cell? ⟨g, off + i * 5 + 2, none⟩ = some (.int .i64 la) := rf_cell (i := 2) hrow hi (by omega) (by rw [hx, hla]; rfl)
      have k3 : w1.cell? ⟨g, off + i * 5 + 3, none⟩ = some (.bool th) := rf_cell (i := 3) hrow hi (by omega) (by rw [hx, hth]; rfl)
      have k4 : w1.cell? ⟨g, off + i * 5 + 4, none⟩ = some (.bool na) := rf_cell (i := 4) hrow hi (by omega) (by rw [hx, hna]; rfl)
      have HV : Hid (d.fileV nm = (.agg #[.string nm, .int .i64 (bs.size : Int), .int .i64 la, .bool th, .bool na], 0)) := Lib.hid (by
        unfold Dk.fileV
        rw [if_neg (by rw [HK.out]; simp), ha, hx, hbl, hla, hth, hna]
        rfl)
      clear hrow hx hbs hbl hla hth hna hnc hN ha hin hnx
      go_wp2_with fail
      refine (refTell_b nm bs la th na w1).mono ?_
      rintro e w3 ⟨rfl, hb3⟩
      have g3 := (hb3.block b4 (Array.getElem?_eq_some_iff.1 H.out.2.1).1).trans H.out.2.1
      have HG := Lib.hid (And.intro g3 (H.out.2.2.1.trans (hb3.mono H.out.2.2.1.size)))
      clear r0 r1 r2 r3 r4 z0 z1 z2 z3 z4 c0 k0 k1 k2 k3 k4 hb3
      have r0 : w3.cell? ⟨b4, 0, none⟩ = some (.string ⟨#[]⟩) := cell_of g3 rfl
      have r1 : w3.cell? ⟨b4, 1, none⟩ = some (.int .i64 0) := cell_of g3 rfl
      have r2 : w3.cell? ⟨b4, 2, none⟩ = some (.int .i64 0) := cell_of g3 rfl
      have r3 : w3.cell? ⟨b4, 3, none⟩ = some (.bool false) := cell_of g3 rfl
      have r4 : w3.cell? ⟨b4, 4, none⟩ = some (.bool false) := cell_of g3 rfl
      have z0 : w3.frozen? ⟨b4, 0, none⟩ = false := free_of g3 _
      have z1 : w3.frozen? ⟨b4, 1, none⟩ = false := free_of g3 _
      have z2 : w3.frozen? ⟨b4, 2, none⟩ = false := free_of g3 _
      have z3 : w3.frozen? ⟨b4, 3, none⟩ = false := free_of g3 _
      have z4 : w3.frozen? ⟨b4, 4, none⟩ = false := free_of g3 _
      clear g3
      go_wp2_with fail
      obtain ⟨hr2, hb2⟩ := box_five (.string nm) (.int .i64 (bs.size : Int)) (.int .i64 la) (.bool th) (.bool na) HG.out.1 HG.out.2 H.out.2.2.2
      generalize hw2 : World.setCell (World.setCell (World.setCell (World.setCell (World.setCell _ _ _) _ _) _ _) _ _) _ _ = w2 at hr2 hb2 ⊢
      have s0 : w2.cell? ⟨b4, 0, none⟩ = some (.string nm) := cell_of hr2 rfl
      have s1 : w2.cell? ⟨b4, 1, none⟩ = some (.int .i64 (bs.size : Int)) := cell_of hr2 rfl
      have s2 : w2.cell? ⟨b4, 2, none⟩ = some (.int .i64 la) := cell_of hr2 rfl
      have s3 : w2.cell? ⟨b4, 3, none⟩ = some (.bool th) := cell_of hr2 rfl
      have s4 : w2.cell? ⟨b4, 4, none⟩ = some (.bool na) := cell_of hr2 rfl
      exact bodyPost_ret (v := .tuple #[.agg #[.string nm, .int .i64 (bs.size : Int), .int .i64 la, .bool th, .bool na], .int .i64 0]) (by simp [results, Try.results63, go_sem, s0, s1, s2, s3, s4]) rfl ⟨by rw [HV.out], hb2⟩
end Go.Proofs.Ytmkjejngnahpeaa
/- law07: DiskPlay: what its walk wants. -/
namespace Go.Proofs.Ytmkjejngnahpeaa
open Go Go.Maps Go.RowKit
open Go.Proofs (encStr)

set_option maxHeartbeats 400000 in
theorem newBad_b {w : World} {oa : Option Addr} {n c : Nat} {l : List (Int × Int)} (hn : l.length = n) (h : readAt w 2 (.slice oa n c) n (fateCells l)) (hm : n ≤ 1000000000) (hok : l.any badFate = true) :
    Calls Try.prog 23 #[.slice oa n c] w fun e w' => e = .returned (.tuple #[.pointer none, .int .i64 2]) ∧ Below w.heap.size w w' := by
  go_enter Try.func23, Try.ntmps23
  go_wp2_with fail
  refine (right_b hn h hm).mono ?_
  rintro e w1 ⟨rfl, hb1⟩
  rw [hok]
  have HB1 := Lib.hid hb1
  clear h hb1
  go_wp2_with fail
  go_ret2
  exact ⟨rfl, HB1.out⟩
theorem run_takeF (oa : Option Addr) (N c E : Nat) (h2 : E ≤ c) (h0 : oa.map (fun x => x.add 0) = oa) (W : World) : (Instr.slice 65 (.slice oa N c) none (some (.int .i64 (E : Int))) none).run Try.prog W = .ok (.slice oa E c) W := by
  have hs : (sizeOf 99).run Try.prog W = .ok 2 W := by kernel_rfl
  have he : Try.prog.elem 65 = 99 := by kernel_rfl
  rw [run_slice_h (P := Try.prog) (w := W) 65 oa N c (by rw [he]; exact Try.underlying65) .i64 E (by omega) (by omega), he, hs]
  simp [Result.andThen, sliced, h0]
theorem fate_row (w : World) (a b : Value) : rowAt (w.alloc (.cells #[a, b] 99)) 99 2 (.slice (some ⟨w.heap.size, 0, none⟩) 1 1) 1 [a, b] :=
  ⟨rfl, .inr ⟨_, 0, 1, _, _, rfl, alloc_cells _ _ _, Nat.le_refl _, by unfold maxLen; omega, by simp, freeRow_zero _, rfl⟩⟩
theorem u8_row (w : World) (a : Value) : rowAt (w.alloc (.cells #[a] 5)) 5 1 (.slice (some ⟨w.heap.size, 0, none⟩) 1 1) 1 [a] :=
  ⟨rfl, .inr ⟨_, 0, 1, _, _, rfl, alloc_cells _ _ _, Nat.le_refl _, by unfold maxLen; omega, by simp, freeRow_zero _, rfl⟩⟩
theorem not_vast7 {l : List StepT} (h : vastT l = false) : l.length ≤ 300 ∧ ∀ x ∈ l, x.bytes.length ≤ 3000 ∧ x.fates.length ≤ 100 ∧ x.picks.length ≤ 300 := by
  unfold vastT at h
  simp only [Bool.or_eq_false_iff, decide_eq_false_iff_not, List.any_eq_false] at h
  refine ⟨by omega, fun x hx => ?_⟩
  have := h.2 x hx
  simp only [StepT.vast, Bool.or_eq_true, decide_eq_true_eq] at this
  omega
section
variable {B : Nat} {w w' V : World} {S1 S2 S3 S4 : Nat → Prop} {q p qo po : Nat} {d1 d2 o1 o2 d' : Dk}
/-- a call on the disk -/
theorem Four.did1 {r : Int × Dk} {er : Int} {dn : Dk} {e : Ending} (h : Four B w S1 S2 S3 S4 q p qo po d1 d2 o1 o2) (hb : Below w.heap.size w V) (hB : B ≤ w.heap.size) (hr : r = (er, dn)) (ho : OpIs V S1 q r e w') :
    e = .returned (.int .i64 er) ∧ ∃ T, Four B w' T S2 S3 S4 q p qo po dn d2 o1 o2 ∧ Only S1 w w' := by
  subst hr
  exact ⟨ho.1, Wid S1 V w', (h.below hb).op1 (Nat.le_trans hB hb.size) ho.2.1 ho.2.2, (Only.of_below hb (Nat.le_refl _) S1).trans ho.2.2 (fun _ _ h => h)⟩
theorem Four.did2 {r : Int × Dk} {er : Int} {dn : Dk} {e : Ending} (h : Four B w S1 S2 S3 S4 q p qo po d1 d2 o1 o2) (hb : Below w.heap.size w V) (hB : B ≤ w.heap.size) (hr : r = (er, dn)) (ho : ROpIs V S2 p r e w') :
    e = .returned (.int .i64 er) ∧ ∃ T, Four B w' S1 T S3 S4 q p qo po d1 dn o1 o2 ∧ Only S2 w w' := by
  subst hr
  exact ⟨ho.1, Wid S2 V w', (h.below hb).op2 (Nat.le_trans hB hb.size) ho.2.1 ho.2.2, (Only.of_below hb (Nat.le_refl _) S2).trans ho.2.2 (fun _ _ h => h)⟩
theorem Four.only {X : Nat → Prop} (h : Four B w S1 S2 S3 S4 q p qo po d1 d2 o1 o2) (ho : Only X w w') (hX : ∀ k, X k → ¬ S1 k ∧ ¬ S2 k ∧ ¬ S3 k ∧ ¬ S4 k) : Four B w' S1 S2 S3 S4 q p qo po d1 d2 o1 o2 :=
  { h with
    one := h.one.only2 ho (fun k hk e => (hX k e).1 hk)
    two := h.two.only ho (fun k hk e => (hX k e).2.1 hk)
    three := h.three.only2 ho (fun k hk e => (hX k e).2.2.1 hk)
    four := h.four.only ho (fun k hk e => (hX k e).2.2.2 hk) }
end
/-- the state at a round's head -/
structure PlayR (W wr : World) (S1 S2 S3 S4 : Nat → Prop) (q p qo po : Nat) (d o : Dk) (j : Nat) : Prop where
  four : Four W.heap.size wr S1 S2 S3 S4 q p qo po d d o o
  below : Below W.heap.size W wr
  few : d.fates.length ≤ 100 + 100 * j
theorem PlayR.fin {W w2 w5 w6 : World} {S1 S2 S3 S4 T1 T2 : Nat → Prop} {q p qo po : Nat} {d' o : Dk} {j : Nat} (hb2 : Below W.heap.size W w2) (h4 : Four W.heap.size w6 T1 T2 S3 S4 q p qo po d' d' o o) (ho1 : Only S1 w2 w5) (ho2 : Only S2 w5 w6) (l1 : ∀ k, S1 k → W.heap.size ≤ k) (l2 : ∀ k, S2 k → W.heap.size ≤ k) (hf : d'.fates.length ≤ 100 + 100 * j) : PlayR W w6 T1 T2 S3 S4 q p qo po d' o j :=
  ⟨h4, (hb2.trans (ho1.below (fun i hi e => by have := l1 i e; omega) hb2.size)).trans (ho2.below (fun i hi e => by have := l2 i e; omega) (Nat.le_trans hb2.size ho1.size)), hf⟩
theorem PlayR.later {W wr wx : World} {S1 S2 S3 S4 : Nat → Prop} {q p qo po : Nat} {d o : Dk} {j : Nat} (h : PlayR W wr S1 S2 S3 S4 q p qo po d o j) (hb : Below wr.heap.size wr wx) : PlayR W wx S1 S2 S3 S4 q p qo po d o j :=
  ⟨h.four.below hb, h.below.trans (hb.mono h.below.size), h.few⟩
/-- bytes of a slice of one's own are turned one by one, from the front on -/
structure Bump (w6 wr : World) (oa : Option Addr) (n c k : Nat) (b : List UInt8) : Prop where
  only : Only (fun i => (Value.slice oa n c).ownBlock = some i) w6 wr
  row : ∃ xs, rowAt wr 5 1 (.slice oa n c) n xs ∧ ∀ i, k ≤ i → i < b.length → xs[i]? = (byteCells b)[i]?
theorem Bump.start {w6 : World} {oa : Option Addr} {n c : Nat} {b : List UInt8} {xs : List Value} (h : rowAt w6 5 1 (.slice oa n c) n xs) (hx : ∀ i, i < b.length → xs[i]? = (byteCells b)[i]?) : Bump w6 w6 oa n c 0 b :=
  ⟨Only.refl _ _, xs, h, fun i _ hi => hx i hi⟩
theorem Bump.cell {w6 wr : World} {g off n c k : Nat} {b : List UInt8} (h : Bump w6 wr (some ⟨g, off, none⟩) n c k b) (hk : k < b.length) (hn : k < n) : wr.cell? ⟨g, off + k, none⟩ = some (.int .u8 (b[k].toNat : Int)) ∧ wr.frozen? ⟨g, off + k, none⟩ = false := by
  obtain ⟨xs, h1, h2⟩ := h.row
  refine ⟨h1.read.cellAt ?_, h1.freeAt (by omega)⟩
  rw [h2 k (Nat.le_refl _) hk]
  unfold byteCells
  rw [List.getElem?_map, List.getElem?_eq_getElem hk]
  rfl
theorem Bump.next {w6 wr : World} {g off n c k : Nat} {b : List UInt8} (h : Bump w6 wr (some ⟨g, off, none⟩) n c k b) (hn : k < n) (v : Value) : Bump w6 (wr.setCell ⟨g, off + k, none⟩ v) (some ⟨g, off, none⟩) n c (k + 1) b := by
  obtain ⟨xs, h1, h2⟩ := h.row
  refine ⟨h.only.trans (only_setCell (fun i => i = g) wr g _ v rfl) (fun _ _ e => by subst e; rfl), xs.set k v, h1.setAt (by omega) v, fun i hi hib => ?_⟩
  rw [List.getElem?_set_ne (by omega), h2 i (by omega) hib]
/-- what File tells, opened -/
theorem fileV_open {w : World} {S : Nat → Prop} {q : Nat} {d : Dk} (h : DiskAt w S q d) (nm : ByteArray) (hs : nm.size ≤ maxLen) : ∃ (a0 : ByteArray) (a1 a2 : Int) (a3 a4 : Bool) (e : Int), d.fileV nm = (.agg #[.string a0, .int .i64 a1, .int .i64 a2, .bool a3, .bool a4], e) ∧ a0.size ≤ maxLen ∧ (Lit.int .i64 a1).wf = true ∧ (Lit.int .i64 a2).wf = true := by
  have h0 : (Lit.int .i64 0).wf = true := wf_smallT (by omega) (by omega)
  have he : (⟨#[]⟩ : ByteArray).size ≤ maxLen := by unfold maxLen; decide
  unfold Dk.fileV
  by_cases hn : nameOk nm.data.toList = false
  · rw [if_pos hn]
    exact ⟨_, _, _, _, _, _, rfl, he, h0, h0⟩
  · rw [if_neg hn]
    cases hf : d.at nm.data.toList with
    | none => exact ⟨_, _, _, _, _, _, rfl, he, h0, h0⟩
    | some f =>
      have hm : f ∈ d.files := List.mem_of_find?_eq_some hf
      have hz := h.sizes.2 f hm
      exact ⟨_, _, _, _, _, _, rfl, hs, wf_smallT (by omega) (by omega), wf_smallT (by omega) (by omega)⟩
/-- bytes are appended to nothing, within a region that draws its order -/
theorem step_u8_nil {w V : World} {ops : Array Oper} {o : Oper} {a : Act} {K : Act → World → Prop} {Q : Exit → Act → World → Prop} {E : Prop}
    (hg : o.guard = none) (x : Operand) (ho : o.op = .call { callee := .builtin .append, args := #[.const (.slice none 0 0), x], argTypes := #[79, 79] })
    {v : Value} {l : List UInt8} (h : readAt w 1 v l.length (byteCells l)) {n : Nat} (hn : l.length = n) (hb : Below w.heap.size w V) (hm : n ≤ 1000000) (hx : a.eval x = v)
    (hK : ∀ oa c w3, Hid (rowAt w3 5 1 (.slice oa n c) n (byteCells l) ∧ Below V.heap.size V w3 ∧ Below w.heap.size w w3 ∧ ∀ k, (Value.slice oa n c).ownBlock = some k → w.heap.size ≤ k ∧ k < w3.heap.size) → K (a.put o.dst (.slice oa n c)) w3) :
    if Region.wanted o (yielded ops a.tmps) = true then Oper.wp Try.prog o a V K Q else E := by
  have hw : Region.wanted o (yielded ops a.tmps) = true := by simp [Region.wanted, hg]
  rw [if_pos hw]
  subst hn
  obtain ⟨i, hi, hz, hsz, hby⟩ := info_parts info_u8
  obtain ⟨v', w', hrun, r1, r2, r3, r4⟩ := run_append_at (P := Try.prog) V 79 79 o.type 5 i _ 1 1 Try.underlying79 hi hz hsz hby rfl (.slice none 0 0) 0 [] ⟨rfl, .inl ⟨rfl, rfl⟩⟩ v _ (byteCells l) (Src.of_read Try.underlying79 (h.kept (fun k hk _ _ => hb.block k hk)) (byteCells_one l)) (by unfold maxLen; omega) (by omega)
  obtain ⟨oa3, c3, rfl, _⟩ := r1.shape
  rw [Nat.zero_add] at hrun
  have he : a.eval (.const (.slice none 0 0)) = .slice none 0 0 := rfl
  have hb3 : Below V.heap.size V w' := (Below.refl _ _).grown r2 (Nat.le_refl _) (fun k e => by cases e)
  unfold Oper.wp
  simp [execOp, ho, resolve, invoke, builtin, he, hx, hrun, Result.andThen]
  refine hK oa3 c3 w' (Lib.hid ⟨by simpa using r1, hb3, hb.trans (hb3.mono hb.size), fun k hk => ?_⟩)
  have hl := r1.lt k (by rw [Nat.zero_add]; exact hk)
  rcases r3 with e | e
  · rw [Nat.zero_add, hk] at e
    simp [Value.ownBlock] at e
  · rw [Nat.zero_add, hk] at e
    simp only [Option.some.injEq] at e
    have := hb.size
    omega
/-- one byte more -/
theorem step_u8_one {w V : World} {ops : Array Oper} {o : Oper} {a : Act} {K : Act → World → Prop} {Q : Exit → Act → World → Prop} {E : Prop}
    (hg : o.guard = none) (s x : Operand) (ho : o.op = .call { callee := .builtin .append, args := #[s, x], argTypes := #[79, 79] })
    {oa : Option Addr} {n c : Nat} {xs : List Value} (h : rowAt V 5 1 (.slice oa n c) n xs) (how : ∀ k, (Value.slice oa n c).ownBlock = some k → w.heap.size ≤ k) {y : Addr} {u : Value} (hy : readAt V 1 (.slice (some y) 1 1) 1 [u]) (hu : u.oneCell' = true) (hb : Below w.heap.size w V) (hm : n ≤ 1000000) (hs : a.eval s = .slice oa n c) (hx : a.eval x = .slice (some y) 1 1)
    (hK : ∀ oa3 c3 w3, Hid (rowAt w3 5 1 (.slice oa3 (n + 1) c3) (n + 1) (xs ++ [u]) ∧ Below w.heap.size w w3 ∧ ∀ k, (Value.slice oa3 (n + 1) c3).ownBlock = some k → w.heap.size ≤ k) → K (a.put o.dst (.slice oa3 (n + 1) c3)) w3) :
    if Region.wanted o (yielded ops a.tmps) = true then Oper.wp Try.prog o a V K Q else E := by
  have hw : Region.wanted o (yielded ops a.tmps) = true := by simp [Region.wanted, hg]
  rw [if_pos hw]
  obtain ⟨i, hi, hz, hsz, hby⟩ := info_parts info_u8
  obtain ⟨v', w', hrun, r1, r2, r3, r4⟩ := run_append_at (P := Try.prog) V 79 79 o.type 5 i _ 1 1 Try.underlying79 hi hz hsz hby rfl _ n xs h (.slice (some y) 1 1) _ [u] (Src.of_read Try.underlying79 hy (fun v hv => by rw [List.mem_singleton] at hv; subst hv; exact hu)) (by unfold maxLen; omega) (by omega)
  obtain ⟨oa3, c3, rfl, _⟩ := r1.shape
  unfold Oper.wp
  simp [execOp, ho, resolve, invoke, builtin, hs, hx, hrun, Result.andThen]
  refine hK oa3 c3 w' (Lib.hid ⟨r1, hb.grown r2 hb.size (fun k e => how k e), fun k hk => ?_⟩)
  rcases r3 with e | e
  · rw [hk] at e
    exact how k e.symm
  · rw [hk] at e
    simp only [Option.some.injEq] at e
    have := hb.size
    omega
end Go.Proofs.Ytmkjejngnahpeaa
