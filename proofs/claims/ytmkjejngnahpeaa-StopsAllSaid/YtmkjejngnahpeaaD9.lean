/- The texts Jn in one. -/
import Derived.Test.YtmkjejngnahpeaaC2
/- stops: At, the walk. -/
namespace Go.Proofs.Ytmkjejngnahpeaa
open Go Go.Maps Go.RowKit Go.Shelf
attribute [local go_sem] Oper.semAt_some

set_option maxRecDepth 100000 in
set_option maxHeartbeats 4000000 in
theorem sAt_b {w : World} {S : Nat → Prop} {q : Nat} {d : Dk} (h : DiskAt w S q d) (hfm : d.fates.length ≤ 1000000000) (x : Int) (hx : x ≤ 9223372036854775807) :
    Calls Try.prog 77 #[.pointer (some ⟨q, 0, none⟩), .int .i64 x] w fun e w' => ∃ oa n c, e = .returned (.tuple #[.agg #[.slice oa n c], .int .i64 (atV d x).2]) ∧ (atV d x).1.length = n ∧ NewR 3 1 w w' (.slice oa n c) n (natCells (atV d x).1) := by
  have HZ := Lib.hid h.sizes
  obtain ⟨w2, hw2⟩ : ∃ W : World, W = (w.alloc (.cells #[.int .i64 x] 2)).alloc (.cells #[.slice none 0 0] 72) := ⟨_, rfl⟩
  obtain ⟨b3, hb3⟩ : ∃ b, b = w.heap.size := ⟨_, rfl⟩
  obtain ⟨b4, hb4⟩ : ∃ b, b = w.heap.size + 1 := ⟨_, rfl⟩
  have hbl2 : Below w.heap.size w w2 := by rw [hw2]; exact ((Below.refl _ _).alloc (Nat.le_refl _) _).alloc (by simp) _
  have h3 : w2.heap[b3]? = some (.cells #[.int .i64 x] 2 (0, 0)) := by
    rw [hw2, hb3]
    exact (Below.heap_alloc _ _ _ (by simp)).trans (alloc_cells _ _ _)
  have h4 : w2.heap[b4]? = some (.cells #[.slice none 0 0] 72 (0, 0)) := by
    rw [hw2, hb4]
    have := alloc_cells (w.alloc (.cells #[.int .i64 x] 2)) #[.slice none 0 0] 72
    rwa [World.size_alloc] at this
  have H2 := Lib.hid (And.intro (h.below hbl2) (And.intro h3 (And.intro h4 hbl2)))
  have HBB : Hid (w.heap.size ≤ b3 ∧ w.heap.size ≤ b4 ∧ b3 ≠ b4) := Lib.hid (by omega)
  clear h h3 h4 hbl2
  refine (callsIn_wide (n := 8)).1 ?_
  have f1 : Fence.wide.fn 133 := trivial
  have f2 : Fence.wide.fn 135 := trivial
  have f3 : Fence.wide.fn 134 := trivial
  have f4 : Fence.wide.fn 139 := trivial
  have f5 : Fence.wide.fn 140 := trivial
  have f6 : Fence.wide.fn 138 := trivial
  refine callsIn_of_wp_marks Try.func77 rfl trivial ?_ rfl
  simp only [Try.ntmps77, List.size_toArray, List.length_cons, List.length_nil, Nat.reduceAdd, Nat.reduceSub, Array.replicate_succ, Array.replicate_zero, List.push_toArray, List.append_toArray, List.nil_append, List.cons_append]
  gi_upto_region 1 with fail
  rw [← hw2, ← hb4, ← hb3]
  clear hw2 hb3 hb4
  gi_wp2_with fail
  refine (callsIn_wide.2 (snone_b H2.out.1 hfm)).mono ?_
  rintro e w3 ⟨rfl, hb3'⟩
  have H3 := Lib.hid (And.intro (H2.out.1.below hb3') (And.intro ((hb3'.block b3 (Array.getElem?_eq_some_iff.1 H2.out.2.1).1).trans H2.out.2.1) (And.intro ((hb3'.block b4 (Array.getElem?_eq_some_iff.1 H2.out.2.2.1).1).trans H2.out.2.2.1) (H2.out.2.2.2.trans (hb3'.mono H2.out.2.2.2.size)))))
  have c3 : w3.cell? ⟨b3, 0, none⟩ = some (.int .i64 x) := cell_of H3.out.2.1 rfl
  have c4 : w3.cell? ⟨b4, 0, none⟩ = some (.slice none 0 0) := cell_of H3.out.2.2.1 rfl
  have z4 : w3.frozen? ⟨b4, 0, none⟩ = false := free_of H3.out.2.2.1 _
  clear hb3'
  -- the ways out ahead of the count
  have HRET : Hid (∀ (W : World) (er : Int), W.heap[b4]? = some (.cells #[.slice none 0 0] 72 (0, 0)) → Below w.heap.size w W → atV d x = ([], er) → (W.setCell ⟨b4, 0, none⟩ (.slice none 0 0)).cell? ⟨b4, 0, none⟩ = some (.slice none 0 0) ∧ ∃ oa n c, Ending.returned (.tuple #[.agg #[.slice none 0 0], .int .i64 er]) = .returned (.tuple #[.agg #[.slice oa n c], .int .i64 (atV d x).2]) ∧ (atV d x).1.length = n ∧ NewR 3 1 w (W.setCell ⟨b4, 0, none⟩ (.slice none 0 0)) (.slice oa n c) n (natCells (atV d x).1)) := Lib.hid (fun W er hW hb he => by
    refine ⟨cell_of (heap_setCell_here _ hW) rfl, none, 0, 0, by rw [he], by rw [he]; rfl, ?_⟩
    rw [he]
    exact NewR.nil (hb.setCell (p := ⟨b4, 0, none⟩) HBB.out.2.1 _))
  by_cases hneg : x < 0
  · have hd : decide (x < 0) = true := decide_eq_true hneg
    have HE : Hid (atV d x = ([], 2)) := Lib.hid (by unfold atV; rw [if_pos hneg])
    gi_wp2_with fail
    obtain ⟨hrr, hend⟩ := HRET.out w3 2 H3.out.2.2.1 H3.out.2.2.2 HE.out
    exact ⟨.tuple #[.agg #[.slice none 0 0], .int .i64 2], by simp [results, Try.results77, go_sem, hrr], hend⟩
  have HNG : Hid (0 ≤ x) := Lib.hid (by omega)
  have hd : decide (x < 0) = false := decide_eq_false hneg
  clear hneg
  gi_wp2_with fail
  refine (callsIn_wide.2 (sall_b H3.out.1)).mono ?_
  rintro e w5 ⟨ol, m, cl, rfl, hml, hr, hb5⟩
  have hlen := unsT_len d.files
  have hz := HZ.out
  have hm4 : m ≤ 4096 := by omega
  obtain ⟨l, hl⟩ : ∃ l, unsT d.files = l := ⟨_, rfl⟩
  have hmore := unsT_more (l := d.files) (fun f hf => (hz.2 f hf).2)
  rw [hl] at hml hr hmore
  have HC := Lib.hid (count_b hml hr.read (by omega) hmore)
  have H5 := Lib.hid (And.intro ((hb5.block b3 (Array.getElem?_eq_some_iff.1 H3.out.2.1).1).trans H3.out.2.1) (And.intro ((hb5.block b4 (Array.getElem?_eq_some_iff.1 H3.out.2.2.1).1).trans H3.out.2.2.1) (H3.out.2.2.2.trans (hb5.mono H3.out.2.2.2.size))))
  have HR := Lib.hid (And.intro hml (And.intro hr hmore))
  have HL := Lib.hid hl
  clear hml hr hmore hb5 hlen hz hl c3 c4 z4 H3 H2
  gi_wp2_with fail
  refine (callsIn_wide.2 HC.out).mono ?_
  rintro e w6 ⟨rfl, hb6⟩
  have H6 := Lib.hid (And.intro ((hb6.block b3 (Array.getElem?_eq_some_iff.1 H5.out.1).1).trans H5.out.1) (And.intro ((hb6.block b4 (Array.getElem?_eq_some_iff.1 H5.out.2.1).1).trans H5.out.2.1) (H5.out.2.2.trans (hb6.mono H5.out.2.2.size))))
  have HR6 := Lib.hid (HR.out.2.1.kept (fun k hk => hb6.block k (HR.out.2.1.lt k hk)))
  have c3 : w6.cell? ⟨b3, 0, none⟩ = some (.int .i64 x) := cell_of H6.out.1 rfl
  have c4 : w6.cell? ⟨b4, 0, none⟩ = some (.slice none 0 0) := cell_of H6.out.2.1 rfl
  have z4 : w6.frozen? ⟨b4, 0, none⟩ = false := free_of H6.out.2.1 _
  clear hb6 H5 HC
  cases hc : countT l with
  | none =>
    dsimp only [cntV]
    have HE : Hid (atV d x = ([], 3)) := Lib.hid (by unfold atV; rw [if_neg (by have := HNG.out; omega), HL.out, hc])
    clear hc
    gi_wp2_with fail
    obtain ⟨hrr, hend⟩ := HRET.out w6 3 H6.out.2.1 H6.out.2.2 HE.out
    exact ⟨.tuple #[.agg #[.slice none 0 0], .int .i64 3], by simp [results, Try.results77, go_sem, hrr], hend⟩
  | some k =>
    dsimp only [cntV]
    have HCT := Lib.hid hc
    obtain ⟨y, hy⟩ : ∃ y : Nat, x = (y : Int) := ⟨x.toNat, by have := HNG.out; omega⟩
    subst hy
    by_cases hbig : k ≤ y
    · have hdb : decide ((k : Int) ≤ (y : Int)) = true := decide_eq_true (by omega)
      have HE : Hid (atV d (y : Int) = ([], 4)) := Lib.hid (by
        unfold atV
        rw [if_neg (by have := HNG.out; omega), HL.out, hc]
        show (if _ then _ else _) = _
        rw [if_pos (by simpa using hbig)])
      clear hc
      gi_wp2_with fail
      obtain ⟨hrr, hend⟩ := HRET.out w6 4 H6.out.2.1 H6.out.2.2 HE.out
      exact ⟨.tuple #[.agg #[.slice none 0 0], .int .i64 4], by simp [results, Try.results77, go_sem, hrr], hend⟩
    · have hdb : decide ((k : Int) ≤ (y : Int)) = false := decide_eq_false (by omega)
      have HV : Hid (atV d (y : Int) = (ofT l (atWays l y) [], 0)) := Lib.hid (by
        unfold atV
        rw [if_neg (by have := HNG.out; omega), HL.out, hc]
        show (if _ then _ else _) = _
        rw [if_neg (by simpa using hbig)]
        simp)
      have hkm := countT_most hc
      clear hc HRET
      gi_wp2_with (gi_at_make; refine wpListIn_make_zeros _ rfl (.tmp 38) (.tmp 38) rfl (m := m) (by omega) rfl rfl ?_; intro w7 HN7 HB7; have h37 := (HB7.out.block b3 (Array.getElem?_eq_some_iff.1 H6.out.1).1).trans H6.out.1; have h47 := (HB7.out.block b4 (Array.getElem?_eq_some_iff.1 H6.out.2.1).1).trans H6.out.2.1; have H7 := Lib.hid (And.intro h37 (And.intro h47 (H6.out.2.2.trans (HB7.out.mono H6.out.2.2.size)))); have HR7 := Lib.hid (HR6.out.kept (fun k hk => HB7.out.block k (HR6.out.lt k hk))); clear h37 h47)
      obtain ⟨w8, hw8⟩ : ∃ W : World, W = w7.alloc (.cells #[.slice (some ⟨w6.heap.size, 0, none⟩) m m] 209) := ⟨_, rfl⟩
      obtain ⟨b9, hb9⟩ : ∃ b, b = w7.heap.size := ⟨_, rfl⟩
      obtain ⟨g9, hg9⟩ : ∃ b, b = w6.heap.size := ⟨_, rfl⟩
      have h98 : w8.heap[b9]? = some (.cells #[.slice (some ⟨g9, 0, none⟩) m m] 209 (0, 0)) := by rw [hw8, hb9, hg9]; exact alloc_cells _ _ _
      have hbl8 : Below w7.heap.size w7 w8 := by rw [hw8]; exact (Below.refl _ _).alloc (Nat.le_refl _) _
      have hA7 : w7.heap[b3]? = some (.cells #[.int .i64 y] 2 (0, 0)) := H7.out.1
      have hA8 : AtI w w8 b3 b4 b9 (some ⟨g9, 0, none⟩) m m (.slice ol m cl) l (List.replicate m 0, y) :=
        { num := (hbl8.block b3 (Array.getElem?_eq_some_iff.1 hA7).1).trans hA7
          res := (hbl8.block b4 (Array.getElem?_eq_some_iff.1 H7.out.2.1).1).trans H7.out.2.1
          box := h98
          row := by
            rw [hg9]
            exact HN7.out.row.kept (fun k hk => hbl8.block k (HN7.out.row.lt k hk))
          us := HR7.out.kept (fun k hk => hbl8.block k (HR7.out.lt k hk))
          below := H7.out.2.2.trans (hbl8.mono H7.out.2.2.size)
          new := ⟨HBB.out.1, HBB.out.2.1, fun k hk => by
            simp only [Value.ownBlock, Option.some.injEq] at hk
            have h1 := H6.out.2.2.size
            have h2 := (Array.getElem?_eq_some_iff.1 H6.out.1).1
            omega⟩ }
      rw [← hw8, ← hb9, ← hg9]
      have HA8 := Lib.hid hA8
      clear hw8 hb9 hg9 h98 hbl8 hA7 hA8 c3 c4 z4
      refine (callsIn_wide.2 (backward_b w8 ol m cl)).mono ?_
      rintro e w9 ⟨rfl, hw9⟩
      obtain ⟨vb, hvb⟩ : ∃ b, b = w8.heap.size := ⟨_, rfl⟩
      have hbl9 : Below w8.heap.size w8 w9 := by rw [hw9]; exact (Below.refl _ _).alloc (Nat.le_refl _) _
      have hub : UsBox w9 vb l := ⟨.slice ol m cl, by rw [hw9, hvb]; exact alloc_cells _ _ _, by rw [HR.out.1]; exact HA8.out.us.kept (fun k hk => hbl9.block k (HA8.out.us.lt k hk))⟩
      have hA9 := HA8.out.kept hbl9
      rw [← hvb]
      clear hw9 hvb hbl9
      have hst := back_stops Fence.wide 7 trivial rfl (by omega) vb w9 l hub (by have := HR.out.1; omega)
      gi_wp2_with fail
      have hw9s : w.heap.size ≤ w9.heap.size := hA9.below.size
      refine wpIn_rangeFunc_fresh (n := 8) (α := Ix l.length) rfl (by omega) (gf := 167) (lb := #[.pointer (some ⟨vb, 0, none⟩)]) rfl trivial (enters_of Try.func167 (by kernel_rfl) rfl) hst (fun h k => K64.join h k) (fun W l o o' _ h hc _ => K64.put W l o o' h hc) (fun W o hW => K64.of ((Below.refl _ _).alloc (Nat.le_refl _) _)) (Below.refl _ _) (fun _ => rfl)
        (fun pre W => AtI w W b3 b4 b9 (some ⟨g9, 0, none⟩) m m (.slice ol m cl) l (backT l (List.replicate m 0, y) (ixs pre)) ∧ w9.heap.size ≤ W.heap.size) (fun _ _ _ => False) (fun pre W W' row hp hg hr => ⟨hp.1.grown hg (fun r e => ⟨by have := (hr r e).1; omega, (hr r e).2⟩), Nat.le_trans hp.2 hg.size⟩) (fun _ => fun _ _ _ _ hs _ _ => hs) ⟨hA9, Nat.le_refl _⟩ (fun pre W hp => hp.2)
        213 (fun x => #[.bool (l[x.1]'x.2).name, .int .i64 ((l[x.1]'x.2).more : Int)]) ?A ?assign ?body ?done ?stop
      case assign =>
        intro l' x W K B hB hK
        unfold encU
        gi_wp2_with fail
        rw [← hB]
        exact hK
      case stop =>
        rintro D c0 pre W1 _ h0 hf _
        exact hf.elim
      case body =>
        intro l' pre x B W1 hl hlr hp hB hx hlen
        obtain ⟨i, hil⟩ := x
        dsimp only at hx ⊢
        obtain ⟨u, hu⟩ : ∃ u, l[i]'hil = u := ⟨_, rfl⟩
        rw [hu] at hx
        have hum : u.more ≤ 16777216 := HR.out.2.2 u (by rw [← hu]; exact List.getElem_mem _)
        obtain ⟨ub, hub⟩ : ∃ b, u.name = b := ⟨_, rfl⟩
        obtain ⟨um, humm⟩ : ∃ m, u.more = m := ⟨_, rfl⟩
        rw [hub, humm] at hx
        rw [humm] at hum
        obtain ⟨W, hW⟩ : ∃ W, (U0.mk ub um).ways = W := ⟨_, rfl⟩
        have hwa : waysAt l i = W := by
          unfold waysAt
          rw [List.getElem?_eq_getElem hil, hu, ← hW, ← hub, ← humm]
        have hWp : 1 ≤ W := by rw [← hW]; exact U0.ways_pos _
        obtain ⟨sn, hsn⟩ : ∃ s, backT l (List.replicate m 0, y) (ixs pre) = s := ⟨_, rfl⟩
        have hsl : sn.1.length = m := by rw [← hsn, backT_len]; simp
        have hs2 : sn.2 ≤ y := by rw [← hsn]; exact backT_le l _ _
        have hbk : backT l (List.replicate m 0, y) (ixs (pre ++ [⟨i, hil⟩])) = (sn.1.set i (sn.2 % W), sn.2 / W) := by
          rw [ixs_snoc]
          unfold backT
          rw [List.foldl_append]
          show backStep l (backT l (List.replicate m 0, y) (ixs pre)) i = _
          rw [hsn]
          unfold backStep
          rw [hwa]
        rw [hsn] at hp
        obtain ⟨nv, hnv⟩ : ∃ n, sn.2 = n := ⟨_, rfl⟩
        rw [hnv] at hs2 hbk
        have him : i < m := by have := HR.out.1; omega
        have hnum := hp.1.num
        rw [hnv] at hnum
        obtain ⟨r1, hr1⟩ : ∃ r, nv % W = r := ⟨_, rfl⟩
        obtain ⟨q1, hq1⟩ : ∃ r, nv / W = r := ⟨_, rfl⟩
        have hmod : (nv : Int) % (W : Int) = (r1 : Int) := by rw [← hr1]; exact (Int.natCast_emod nv W).symm
        have hdiv : (nv : Int) / (W : Int) = (q1 : Int) := by rw [← hq1]; exact (Int.natCast_ediv nv W).symm
        have hq1m : q1 ≤ 4611686018427387904 := by
          have := Nat.div_le_self nv W
          unfold most62 at hkm
          omega
        have hwq : wrap64 (q1 : Int) = (q1 : Int) := by unfold wrap64; omega
        have HWQ := Lib.hid hwq
        clear hwq
        have HBK : Hid (backT l (List.replicate m 0, y) (ixs (pre ++ [⟨i, hil⟩])) = (sn.1.set i r1, q1)) := Lib.hid (by rw [hbk, hr1, hq1])
        obtain ⟨old, hold⟩ : ∃ o, sn.1[i]? = some o := ⟨_, List.getElem?_eq_getElem (by omega)⟩
        have hco : W1.cell? ⟨g9, i, none⟩ = some (.int .i64 old) := by
          have := hp.1.row.cells (g := g9) (off := 0) rfl i (.int .i64 old) (by unfold natCells; rw [List.getElem?_map, hold]; rfl)
          simpa [Go.WideShapes.add_plain] using this
        have hzo : W1.frozen? ⟨g9, i, none⟩ = false := by have := hp.1.row.freeAt (j := i) (by omega); rwa [Nat.zero_add] at this
        have c9 : W1.cell? ⟨b9, 0, none⟩ = some (.slice (some ⟨g9, 0, none⟩) m m) := cell_of hp.1.box rfl
        have c3 : W1.cell? ⟨b3, 0, none⟩ = some (.int .i64 nv) := cell_of hnum rfl
        have u0 : W1.cell? ⟨B, 0, none⟩ = some (.bool ub) := cell_of hx rfl
        have u1 : W1.cell? ⟨B, 1, none⟩ = some (.int .i64 um) := cell_of hx rfl
        have HP := Lib.hid hp
        have HX := Lib.hid hx
        have HNM := Lib.hid hnum
        have HWAY := Lib.hid (fun W' : World => ways_b ub um (by omega) W')
        have hi0 : (i : Int) < (m : Int) := by omega
        clear hu hub humm hwa hsn hsl hbk hr1 hq1 hold hp hx hnum hlr hB hlen
        have hmx : Try.prog.follows .mixedOrders = true := by kernel_rfl
        have hg9l : g9 < W1.heap.size := HP.out.1.row.lt g9 rfl
        have HR1 : Hid (AtR w w9 W1 W1 b3 b4 b9 g9 B m (.slice ol m cl) l sn ub um) := Lib.hid (AtR.start HP.out.1 HX.out HP.out.2)
        have HNV : Hid (sn.2 = nv) := Lib.hid hnv
        clear hnv
        gi_upto_region 15 with fail
        gi_cut [44] from 44 (fun s44 wx => Hid (AtR w w9 W1 wx b3 b4 b9 g9 B m (.slice ol m cl) l (sn.1.set i r1, sn.2) ub um))
        case first =>
          --(
          gi_region_with_o (gi_at_call 138; refine (CallsIn.inRound l' (callsIn_wide.2 (HWAY.out _))).mono ?_; rintro e wz ⟨rfl, hbz⟩; rw [hW]; have c3z : wz.cell? ⟨b3, 0, none⟩ = some (.int .i64 nv) := (hbz.cell (p := ⟨b3, 0, none⟩) (Array.getElem?_eq_some_iff.1 HNM.out).1).trans c3; have c9z : wz.cell? ⟨b9, 0, none⟩ = some (.slice (some ⟨g9, 0, none⟩) m m) := (hbz.cell (p := ⟨b9, 0, none⟩) (Array.getElem?_eq_some_iff.1 HP.out.1.box).1).trans c9; have coz : wz.cell? ⟨g9, i, none⟩ = some (.int .i64 old) := (hbz.cell (p := ⟨g9, i, none⟩) hg9l).trans hco; have zoz : wz.frozen? ⟨g9, i, none⟩ = false := (frozen_kept_at (hbz.block g9 hg9l)).trans hzo)
          all_goals
            gi_wp2_with fail
            gi_meet
            exact Lib.hid ((HR1.out.drew.kept hbz).digit him)
          --)
        case rest =>
          have hnumc := hcut.out.at_.num
          rw [show (sn.1.set i r1, sn.2).2 = nv from HNV.out] at hnumc
          have c3w : wc.cell? ⟨b3, 0, none⟩ = some (.int .i64 nv) := cell_of hnumc rfl
          have z3w : wc.frozen? ⟨b3, 0, none⟩ = false := free_of hnumc _
          have u0w : wc.cell? ⟨B, 0, none⟩ = some (.bool ub) := cell_of hcut.out.ubox rfl
          have u1w : wc.cell? ⟨B, 1, none⟩ = some (.int .i64 um) := cell_of hcut.out.ubox rfl
          have HNC := Lib.hid hnumc
          clear hco hzo c9 c3 u0 u1 hnumc hmod
          gi_wp2_with fail
          gi_region_with_o (gi_at_call 138; refine (CallsIn.inRound l' (callsIn_wide.2 (HWAY.out _))).mono ?_; rintro e wz ⟨rfl, hbz⟩; rw [hW]; have hn3 := (hbz.block b3 (Array.getElem?_eq_some_iff.1 HNC.out).1).trans HNC.out; have c3z : wz.cell? ⟨b3, 0, none⟩ = some (.int .i64 nv) := cell_of hn3 rfl; have z3z : wz.frozen? ⟨b3, 0, none⟩ = false := free_of hn3 _; clear hn3)
          all_goals
            have hfin := (hcut.out.drew.kept hbz).rest (q := q1)
            gi_wp2_with fail
            try rw [HWQ.out]
            refine ⟨hfin.from_, hfin.keep, ?_, hfin.size⟩
            rw [HBK.out]
            exact hfin.at_
      case done =>
        rintro D xs W1 hD hxs hp hK
        have hix : ixs xs = descL l.length := by rw [hxs]; rfl
        rw [hix] at hp
        obtain ⟨ws, hws⟩ : ∃ ws, atWays l y = ws := ⟨_, rfl⟩
        have hwe : (backT l (List.replicate m 0, y) (descL l.length)).1 = ws := by rw [← hws]; unfold atWays; rw [HR.out.1]
        have hwl : ws.length = m := by rw [← hwe, backT_len]; simp
        have hwm : ∀ x ∈ ws, x ≤ 4611686018427387904 := by
          rw [← hwe]
          refine backT_all (M := 4611686018427387904) _ _ (by unfold most62 at hkm; dsimp only; omega) (fun x hx => ?_)
          have := List.eq_of_mem_replicate hx
          omega
        have hrow := hp.1.row
        rw [hwe] at hrow
        have c9 : W1.cell? ⟨b9, 0, none⟩ = some (.slice (some ⟨g9, 0, none⟩) m m) := cell_of hp.1.box rfl
        have HOF := Lib.hid (of_b HR.out.1 hp.1.us.read hm4 HR.out.2.2 hwl hrow.read hwm)
        have HP := Lib.hid hp
        have HMK := Lib.hid (And.intro hK hD)
        rw [hws] at HV
        clear hxs hix hp hK hD hwe hwl hwm hrow hst hws
        gi_wp2_with fail
        refine (callsIn_wide.2 HOF.out).mono ?_
        rintro e w20 ⟨o1, m1, c1, rfl, hm1, hnr⟩
        have h4 := (hnr.below.block b4 (Array.getElem?_eq_some_iff.1 HP.out.1.res).1).trans HP.out.1.res
        have hD2 := (hnr.below.block D (Array.getElem?_eq_some_iff.1 HMK.out.1).1).trans HMK.out.1
        have c4 : w20.cell? ⟨b4, 0, none⟩ = some (.slice none 0 0) := cell_of h4 rfl
        have z4 : w20.frozen? ⟨b4, 0, none⟩ = false := free_of h4 _
        have HN := Lib.hid (And.intro hnr (And.intro h4 (And.intro hD2 hm1)))
        clear hnr h4 hD2 hm1 c9
        gi_wp2_with fail
        have h41 := heap_setCell_here (i := 0) (.slice o1 m1 c1) HN.out.2.1
        have hD1 := (KeepsOthers.setCell w20 ⟨b4, 0, none⟩ (.slice o1 m1 c1)).same D _ HN.out.2.2.1 rfl
        have hg := grownBy_putObj' (w20.setCell ⟨b4, 0, none⟩ (.slice o1 m1 c1)) D (.deferred none)
        have hDb : b4 ≠ D := fun e => by
          rw [← e, h41] at hD1
          cases hD1
        have h42 := (hg.block b4 (Array.getElem?_eq_some_iff.1 h41).1 (fun e => by simp only [Option.some.injEq] at e; exact hDb e)).trans h41
        have hrr := cell_of (i := 0) (v := .slice o1 m1 c1) h42 rfl
        have hwD : w.heap.size ≤ D := by
          have h1 := HMK.out.2
          omega
        refine ⟨by simp, .inl ⟨_, _, rfl, run_takeDeferred hD1, ?_⟩⟩
        refine ⟨.tuple #[.agg #[.slice o1 m1 c1], .int .i64 0], by simp [results, Try.results77, go_sem, hrr], o1, m1, c1, by rw [HV.out], by rw [HV.out]; exact HN.out.2.2.2, ?_⟩
        rw [HV.out]
        have hbw : Below w.heap.size w w20 := HP.out.1.below.trans (HN.out.1.below.mono HP.out.1.below.size)
        refine ⟨HN.out.1.row.kept (fun k hk => (hg.block k ?_ (fun e => ?_)).trans (Below.heap_setCell _ _ _ _ (fun e => ?_))), fun k hk => Nat.le_trans HP.out.1.below.size (HN.out.1.own k hk), ?_⟩
        · have h1 := HN.out.1.row.lt k hk
          have h2 := (only_setCell (fun _ => True) w20 b4 0 (.slice o1 m1 c1) trivial).size
          omega
        · simp only [Option.some.injEq] at e
          rw [e] at hk
          rcases HN.out.1.row.2 with ⟨hv, _⟩ | ⟨g, off, cap, cur, fr, hv, hgg, _⟩
          · rw [hv] at hk
            simp [Value.ownBlock] at hk
          · rw [hv] at hk
            simp only [Value.ownBlock, Option.some.injEq] at hk
            rw [hk, HN.out.2.2.1] at hgg
            cases hgg
        · rw [e] at hk
          exact absurd (row_type HN.out.1.row hk HN.out.2.1) (by decide)
        · exact (hbw.setCell (p := ⟨b4, 0, none⟩) HBB.out.2.1 _).grown hg (by
            have := (only_setCell (fun _ => True) w20 b4 0 (.slice o1 m1 c1) trivial).size
            have := hbw.size
            omega) (fun k e => by
            simp only [Option.some.injEq] at e
            omega)
end Go.Proofs.Ytmkjejngnahpeaa
