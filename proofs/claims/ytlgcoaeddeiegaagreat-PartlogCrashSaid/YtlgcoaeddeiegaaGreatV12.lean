/- The texts Pzf, Eq, Xa, Eb, Ec, Ed in one. -/
import Derived.Test.YtlgcoaeddeiegaaGreatV11
import Derived.Test.YtlgcoaeddeiegaaGreatV7
import Derived.Shelf.SlIter.Nil
import Derived.Shelf.SortM.Plain
import Derived.Shelf.SortM.SortNone
import Derived.Maps.OwnOps
/- partlog: what stands behind an Append; State; a log's part of a disk that has none of it. -/
namespace Go.Proofs.YtlgcoaeddeiegaaGreat
open Go Go.RowKit
attribute [local go_sem] Oper.semAt_some

theorem hexd_okB : ∀ d : Nat, d < 16 → okByte (hexd d) = true := by decide
theorem hex_okB : ∀ n b, (hex n b).all okByte = true
  | 0, _ => rfl
  | n + 1, b => by
    rw [hex, List.all_append, hex_okB n]
    simp [hexd_okB (b % 16) (by omega)]
theorem sname_nameOk {log : ByteArray} (hlog : loggedB log.data.toList = true) (b : Nat) : nameOk (sname log b) = true := by
  have hl := loggedB_len _ hlog
  have h1 : log.data.toList.all okByte = true := by
    unfold loggedB lowB at hlog
    simp only [Bool.and_eq_true] at hlog
    rw [List.all_eq_true] at *
    intro x hx
    have := hlog.1.1 x hx
    unfold okByte
    simp only [Bool.and_eq_true, decide_eq_true_eq] at this
    have h2 : decide (97 ≤ x.toNat) = true := decide_eq_true (by have := this.1; exact UInt8.le_iff_toNat_le.1 this)
    have h3 : decide (x.toNat ≤ 122) = true := decide_eq_true (by have := this.2; exact UInt8.le_iff_toNat_le.1 this)
    rw [h2, h3]
    rfl
  have h2 : (sname log b).all okByte = true := by
    unfold sname
    rw [List.all_append, List.all_cons, h1, hex_okB]
    rfl
  have h3 : (sname log b).length = log.data.toList.length + 15 := by
    unfold sname
    rw [List.length_append, List.length_cons, hex_length]
  unfold nameOk
  rw [h2, decide_eq_true (show 1 ≤ (sname log b).length by omega), decide_eq_true (show (sname log b).length ≤ 32 by omega)]
  rfl
theorem dies_segs (g : Lg) (e : Int) : (g.dies e).segs = g.segs := by unfold Lg.dies; split <;> rfl
theorem LgFitQ.dies {log : ByteArray} {g : Lg} {d : Dk} (h : LgFitQ log g d) (e : Int) : LgFitQ log (g.dies e) d := fun s hs => h s (by rwa [dies_segs] at hs)
def stateV (g : Lg) : Value := .agg #[.int .i64 (g.begin : Int), .int .i64 (g.fin : Int), .int .i64 (g.stands : Int), .int .i64 (g.segs.length : Int), .bool g.dead]
set_option maxRecDepth 100000 in
set_option maxHeartbeats 2000000 in
theorem logState_b {w : World} {T : Nat → Prop} {lp q : Nat} {log : ByteArray} {roll step : Nat} {g : Lg} {G : List Sg} {a : Sg} {pv : Value} (hm : LogM w T lp q log roll step g G a pv) :
    Calls Tryz.prog 25 #[.pointer (some ⟨lp, 0, none⟩)] w fun e w' => e = .returned (stateV g) ∧ Below w.heap.size w w' := by
  obtain ⟨w1, hw1⟩ : ∃ W : World, W = w.alloc (.cells #[.int .i64 0, .int .i64 0, .int .i64 0, .int .i64 0, .bool false] 60) := ⟨_, rfl⟩
  obtain ⟨b, hb⟩ : ∃ b, b = w.heap.size := ⟨_, rfl⟩
  have gb : w1.heap[b]? = some (.cells #[.int .i64 0, .int .i64 0, .int .i64 0, .int .i64 0, .bool false] 60 (0, 0)) := by rw [hw1, hb]; exact alloc_cells _ _ _
  have hb1 : Below w.heap.size w w1 := by rw [hw1]; exact (Below.refl _ _).alloc (Nat.le_refl _) _
  have hm1 := hm.later hb1
  have HN := Lib.hid (noneLog_b hm1)
  have hsg : (g.segs.length : Int) = ((G.length + 1 : Nat) : Int) := by rw [hm.segs]; simp
  unfold stateV
  rw [hsg]
  obtain ⟨n, hn⟩ : ∃ n : Int, n = ((G.length + 1 : Nat) : Int) := ⟨_, rfl⟩
  have hh := hm1.head
  unfold logHead at hh
  rw [← hn] at hh ⊢
  have k0 : w1.cell? ⟨lp, 0, none⟩ = some (.int .i64 (g.begin : Int)) := cell_of hh rfl
  have k1 : w1.cell? ⟨lp, 1, none⟩ = some (.int .i64 (g.fin : Int)) := cell_of hh rfl
  have k2 : w1.cell? ⟨lp, 2, none⟩ = some (.int .i64 (g.stands : Int)) := cell_of hh rfl
  have k3 : w1.cell? ⟨lp, 3, none⟩ = some (.int .i64 n) := cell_of hh rfl
  have k4 : w1.cell? ⟨lp, 4, none⟩ = some (.bool g.dead) := cell_of hh rfl
  have b0 : w1.cell? ⟨b, 0, none⟩ = some (.int .i64 0) := cell_of gb rfl
  have b1 : w1.cell? ⟨b, 1, none⟩ = some (.int .i64 0) := cell_of gb rfl
  have b2 : w1.cell? ⟨b, 2, none⟩ = some (.int .i64 0) := cell_of gb rfl
  have b3 : w1.cell? ⟨b, 3, none⟩ = some (.int .i64 0) := cell_of gb rfl
  have b4 : w1.cell? ⟨b, 4, none⟩ = some (.bool false) := cell_of gb rfl
  have z0 : w1.frozen? ⟨b, 0, none⟩ = false := free_of gb _
  have z1 : w1.frozen? ⟨b, 1, none⟩ = false := free_of gb _
  have z2 : w1.frozen? ⟨b, 2, none⟩ = false := free_of gb _
  have z3 : w1.frozen? ⟨b, 3, none⟩ = false := free_of gb _
  have z4 : w1.frozen? ⟨b, 4, none⟩ = false := free_of gb _
  have H := Lib.hid (And.intro gb (And.intro hb1 hb))
  obtain ⟨x0, hx0⟩ : ∃ x, x = (g.begin : Int) := ⟨_, rfl⟩
  obtain ⟨x1, hx1⟩ : ∃ x, x = (g.fin : Int) := ⟨_, rfl⟩
  obtain ⟨x2, hx2⟩ : ∃ x, x = (g.stands : Int) := ⟨_, rfl⟩
  obtain ⟨x4, hx4⟩ : ∃ x, x = g.dead := ⟨_, rfl⟩
  rw [← hx0] at k0 ⊢
  rw [← hx1] at k1 ⊢
  rw [← hx2] at k2 ⊢
  rw [← hx4] at k4 ⊢
  clear gb hb1 hm1 hm hsg hn hh hx0 hx1 hx2 hx4
  go_enter Tryz.func25, Tryz.ntmps25
  go_upto_region 1 with fail
  rw [← hw1, ← hb]
  clear hw1 hb
  go_wp2_with fail
  refine HN.out.mono ?_
  rintro e w2 ⟨rfl, hw2⟩
  obtain rfl := hw2.symm
  clear hw2
  go_wp2_with fail
  obtain ⟨w3, hw3⟩ : ∃ W : World, W = ((((w1.setCell ⟨b, 0, none⟩ (.int .i64 x0)).setCell ⟨b, 1, none⟩ (.int .i64 x1)).setCell ⟨b, 2, none⟩ (.int .i64 x2)).setCell ⟨b, 3, none⟩ (.int .i64 n)).setCell ⟨b, 4, none⟩ (.bool x4) := ⟨_, rfl⟩
  rw [← hw3]
  have g3 : w3.heap[b]? = some (.cells #[.int .i64 x0, .int .i64 x1, .int .i64 x2, .int .i64 n, .bool x4] 60 (0, 0)) := by
    rw [hw3]
    exact heap_setCell_here _ (heap_setCell_here _ (heap_setCell_here _ (heap_setCell_here _ (heap_setCell_here _ H.out.1))))
  have r0 := cell_of (i := 0) g3 rfl
  have r1 := cell_of (i := 1) g3 rfl
  have r2 := cell_of (i := 2) g3 rfl
  have r3 := cell_of (i := 3) g3 rfl
  have r4 := cell_of (i := 4) g3 rfl
  have hl : w.heap.size ≤ b := Nat.le_of_eq H.out.2.2.symm
  refine bodyPost_ret (v := .agg #[.int .i64 x0, .int .i64 x1, .int .i64 x2, .int .i64 n, .bool x4]) (by simp [results, Tryz.results25, go_sem, r0, r1, r2, r3, r4]) rfl ⟨rfl, ?_⟩
  rw [hw3]
  exact ((((H.out.2.1.setCell (p := ⟨b, 0, none⟩) hl _).setCell (p := ⟨b, 1, none⟩) hl _).setCell (p := ⟨b, 2, none⟩) hl _).setCell (p := ⟨b, 3, none⟩) hl _).setCell (p := ⟨b, 4, none⟩) hl _
end Go.Proofs.YtlgcoaeddeiegaaGreat
/- Disk: Remove, its walk. -/
namespace Go.Proofs.YtlgcoaeddeiegaaGreat
open Go Go.Maps Go.RowKit

theorem set_gone {w w2 : World} {S : Nat → Prop} {q mb : Nat} {fv' : Value} {A B : List Fl} {x : Fl} {d1 : Dk} (ho : Only (fun k => k = q) w w2) (h2 : DiskIs w2 S q mb fv' (A ++ x :: B) d1) {oa : Option Addr} {c l : Nat} (hbv : x.bv = .slice oa x.f.bytes.length c) (hl : x.f.lasts = l)
    {s : List UInt8} {t : F0 → F0} (hs : x.f.name = s) (ht : t x.f = { x.f with bytes := x.f.bytes.take x.f.lasts, there := false }) (n : Int) :
    OpIs w S q (n, d1.turn s t) (.returned (.int .i64 n)) ((w2.setCell ⟨x.blk, 2, none⟩ (.bool false)).setCell ⟨x.blk, 0, none⟩ (.slice oa l l)).drew := by
  subst hl
  have hx := h2.each x (by simp)
  have hset : Only (fun k => k = x.blk) w2 ((w2.setCell ⟨x.blk, 2, none⟩ (.bool false)).setCell ⟨x.blk, 0, none⟩ (.slice oa x.f.lasts x.f.lasts)).drew :=
    only_drew ((only_setCell (fun k => k = x.blk) w2 x.blk 2 _ rfl).trans (only_setCell (fun k => k = x.blk) _ x.blk 0 _ rfl) (fun _ _ h => h))
  have hown : (Value.slice oa x.f.lasts x.f.lasts).ownBlock = x.bv.ownBlock := by
    rw [hbv]
    cases oa with
    | none => rfl
    | some a => rfl
  have hrow := hx.row
  rw [hbv] at hrow
  have hr2 := hrow.cap x.f.lasts hx.lasts
  rw [Nat.mul_one, byteCells_take] at hr2
  have hlen : (x.f.bytes.take x.f.lasts).length = x.f.lasts := by have := hx.lasts; rw [List.length_take]; omega
  refine file_done (x' := ⟨{ x.f with bytes := x.f.bytes.take x.f.lasts, there := false }, x.blk, .slice oa x.f.lasts x.f.lasts⟩) ho h2 (hset.mono (fun i _ hi => by rw [hi]; simp [Fl.blocks])) rfl rfl ⟨?_, ?_, ?_, ?_⟩ (fun i hi => .inl (by rw [← hown]; exact hi)) hs ht.symm n
  · exact heap_setCell_here (w := w2.setCell ⟨x.blk, 2, none⟩ (.bool false)) _ (heap_setCell_here (w := w2) _ hx.cells)
  · show rowAt _ _ 1 _ (x.f.bytes.take x.f.lasts).length (byteCells (x.f.bytes.take x.f.lasts))
    rw [hlen]
    exact hr2.kept (fun i hi => hset.block i (hr2.lt i hi) (FlAt.own_ne h2 i (by rw [← hown]; exact hi)))
  · show x.f.lasts ≤ (x.f.bytes.take x.f.lasts).length
    omega
  · show (x.f.bytes.take x.f.lasts).length ≤ 16777216
    have := hx.size
    have := hx.lasts
    omega
set_option maxRecDepth 100000 in
set_option maxHeartbeats 1000000 in
theorem remove_b {w : World} {S : Nat → Prop} {q : Nat} {d : Dk} (h : DiskAt w S q d) (nm : ByteArray) (hs : nm.size ≤ maxLen) :
    Calls Tryz.prog 93 #[.pointer (some ⟨q, 0, none⟩), .string nm] w fun e w' => OpIs w S q (d.remove nm.data.toList) e w' := by
  obtain ⟨mb, fv, L, h⟩ := h
  go_enter Tryz.func93, Tryz.ntmps93
  go_wp2_with fail
  refine (find_b h nm hs).mono ?_
  rintro e w' ⟨hF, rfl⟩
  rcases hF with ⟨hn, rfl⟩ | ⟨hn, hf, rfl⟩ | ⟨hn, A, x, B, rfl, hxn, hxt, hf, rfl⟩
  · have HO : Hid (OpIs w' S q (d.remove nm.data.toList) (.returned (.int .i64 2)) w') := Lib.hid (by
      rw [show d.remove nm.data.toList = (2, d) by simp [Dk.remove, hn]]
      exact OpIs.same h 2)
    clear h hn
    go_wp2_with fail
    go_ret
    exact HO.out
  · have HO : Hid (OpIs w' S q (d.remove nm.data.toList) (.returned (.int .i64 171)) w') := Lib.hid (by
      rw [show d.remove nm.data.toList = (171, d) by simp [Dk.remove, hn, hf]]
      exact OpIs.same h 171)
    clear h hn hf
    go_wp2_with fail
    go_ret
    exact HO.out
  · have H := Lib.hid h
    have HN := Lib.hid (And.intro hn hf)
    clear h hn hf
    go_wp2_with fail
    refine (step_b H.out).mono ?_
    rintro e w1 ⟨kd, kp, fv', rfl, hkp, h1, ho1⟩
    obtain ⟨er, her⟩ : ∃ er, d.fate.1 = er := ⟨_, rfl⟩
    rw [her]
    have H1 := Lib.hid h1
    have HO1 := Lib.hid ho1
    have HE := Lib.hid her
    clear h1 ho1 hkp her
    go_upto_region 5 with fail
    obtain ⟨w2, hw2⟩ : ∃ w2 : World, w2 = w1.alloc (.cells #[.int .i64 kd, .int .i64 kp] 98) := ⟨_, rfl⟩
    obtain ⟨r, hr⟩ : ∃ r, r = w1.heap.size := ⟨_, rfl⟩
    have h2 : DiskIs w2 S q mb fv' (A ++ x :: B) d.next := by rw [hw2]; exact H1.out.below ((Below.refl _ _).alloc (Nat.le_refl _) _)
    have ho2 : Only (fun k => k = q) w' w2 := by rw [hw2]; exact HO1.out.trans (only_alloc (fun k => k = q) _ _) (fun _ _ h => h)
    rw [← hw2, ← hr]
    clear hw2 hr H1 HO1
    by_cases h0 : er = 0
    · subst h0
      have hx := h2.each x (by simp)
      have hxc := hx.cells
      obtain ⟨nd, hnd⟩ : ∃ nd, x.f.named = nd := ⟨_, rfl⟩
      have k3 : w2.cell? ⟨x.blk, 3, none⟩ = some (.bool nd) := by rw [← hnd]; exact cell_of hxc rfl
      cases nd with
      | false =>
        have c0 : w2.cell? ⟨q, 0, none⟩ = some (.map (some mb)) := cell_of h2.head rfl
        obtain ⟨D, hown, hdsz, hdic⟩ := h2.look
        have HOWN := Lib.hid (And.intro hown hdic)
        have HKEY : Hid (keyOf Tryz.prog 9 (.string nm) = some (.string nm.data.toList)) := Lib.hid (WideMaps.keyOf_string_mk (P := Tryz.prog) Tryz.underlying9 hs)
        have H2 := Lib.hid h2
        have HO2 := Lib.hid ho2
        have HND := Lib.hid hnd
        clear h2 ho2 hx hxc hown hdsz hdic hnd
        go_wp2_with (at_delete; refine wpList_delete_own _ rfl _ _ 118 9 rfl 175 (string_keyed Tryz.underlying9) Tryz.underlying118 ptrElem mb _ D rfl HOWN.out.1 _ _ rfl HKEY.out ?_; intro w3 hown3 hturn3; have HW3 := Lib.hid (And.intro hown3 hturn3); clear hown3 hturn3)
        go_ret
        have h3 := set_drop (d := d) HO2.out H2.out HOWN.out.2 HW3.out.2 HW3.out.1 hxn rfl
        have e : d.remove nm.data.toList = (0, { d.next with files := d.files.filter fun f => f.name != nm.data.toList }) := by
          unfold Dk.remove
          rw [HN.out.1, HN.out.2]
          simp only [HE.out, HND.out]
          rw [if_neg (by simp), if_neg (by simp), if_neg (by simp)]
        rw [e]
        exact h3
      | true =>
        obtain ⟨oaf, cf, hbv, hnc⟩ := hx.row.shape
        obtain ⟨N, hnn⟩ : ∃ N, x.f.bytes.length = N := ⟨_, rfl⟩
        obtain ⟨l, hll⟩ : ∃ l, x.f.lasts = l := ⟨_, rfl⟩
        have hlN : l ≤ N := by rw [← hnn, ← hll]; exact hx.lasts
        have hxr := hx.row
        rw [hbv, hnn] at hxr
        obtain ⟨hm0, hNc⟩ := hxr.map0
        rw [hbv, hnn, hll, hxt, hnd] at hxc
        have hsl : ∀ W : World, (Instr.slice 39 (.slice oaf N cf) none (some (.int .i64 (l : Int))) (some (.int .i64 (l : Int)))).run Tryz.prog W = .ok (.slice oaf l l) W := fun W => run_both oaf N cf l (by omega) hm0 W
        have k2 : w2.cell? ⟨x.blk, 2, none⟩ = some (.bool true) := cell_of hxc rfl
        have z2 : w2.frozen? ⟨x.blk, 2, none⟩ = false := free_of hxc _
        have HO : Hid (OpIs w' S q (d.remove nm.data.toList) (.returned (.int .i64 0)) ((w2.setCell ⟨x.blk, 2, none⟩ (.bool false)).setCell ⟨x.blk, 0, none⟩ (.slice oaf l l)).drew) := Lib.hid (by
          have h3 := set_gone ho2 h2 (oa := oaf) (c := cf) hbv hll (s := nm.data.toList) (t := fun f => { f with bytes := f.bytes.take f.lasts, there := false }) hxn rfl 0
          have e : d.remove nm.data.toList = (0, d.next.turn nm.data.toList fun f => { f with bytes := f.bytes.take f.lasts, there := false }) := by
            unfold Dk.remove
            rw [HN.out.1, HN.out.2]
            simp only [HE.out, hnd]
            rw [if_neg (by simp), if_neg (by simp), if_pos trivial]
          rw [e]
          exact h3)
        have hc3 := heap_setCell_here (i := 2) (.bool false) hxc
        clear h2 ho2 hx hxr hm0 hbv hnn hll hnc hnd
        go_upto_region 11 with fail
        obtain ⟨w3, hw3⟩ : ∃ w3 : World, w3 = w2.setCell ⟨x.blk, 2, none⟩ (.bool false) := ⟨_, rfl⟩
        rw [← hw3] at HO hc3 ⊢
        have k0 : w3.cell? ⟨x.blk, 0, none⟩ = some (.slice oaf N cf) := cell_of hc3 rfl
        have z0 : w3.frozen? ⟨x.blk, 0, none⟩ = false := free_of hc3 _
        have k1 : w3.cell? ⟨x.blk, 1, none⟩ = some (.int .i64 l) := cell_of hc3 rfl
        clear hw3 hc3 hxc k2 z2 k3
        go_region
        go_wp2_with fail
        go_ret
        exact HO.out
    · have hb0 : (er != 0) = true := by simpa using h0
      have HO : Hid (OpIs w' S q (d.remove nm.data.toList) (.returned (.int .i64 er)) w2) := Lib.hid (by
        rw [show d.remove nm.data.toList = (er, d.next) by
          unfold Dk.remove
          rw [HN.out.1, HN.out.2]
          simp only [HE.out]
          rw [if_neg (by simp), if_pos h0]]
        exact OpIs.next ho2 h2 er)
      clear h0 h2 ho2
      go_wp2_with fail
      go_ret
      exact HO.out
end Go.Proofs.YtlgcoaeddeiegaaGreat
/- A log of segments, plainly: what stands while it is appended to, synced and dropped, whichever steps fail. -/
namespace Go.Proofs.YtlgcoaeddeiegaaGreat
open Go Go.RowKit

def Lg.bats (g : Lg) : List Bat := g.segs.flatMap (·.2)
theorem Lg.bats_split (g : Lg) : g.bats = g.ini.flatMap (·.2) ++ g.lbs := by
  unfold Lg.bats Lg.segs
  rw [List.flatMap_append]
  simp
theorem Lg.recs_bats (g : Lg) : g.recs = recsT g.bats := by
  unfold Lg.recs Lg.bats recsT
  rw [List.flatMap_assoc]
theorem LgOk.lb_bats {g : Lg} (h : LgOk g) : g.lb = g.begin + cntT (g.ini.flatMap (·.2)) := by
  have h1 := h.lb_eq.2
  have e : (g.ini.flatMap fun s => recsT s.2) = recsT (g.ini.flatMap (·.2)) := by
    unfold recsT
    rw [List.flatMap_assoc]
  rw [e, recsT_len] at h1
  exact h1
theorem LgOk.fin_bats {g : Lg} (h : LgOk g) : g.fin = g.begin + cntT g.bats := by
  rw [h.fin_eq, g.recs_bats, recsT_len]
def dropL (log : ByteArray) (before : Int) : List (Nat × List Bat) → Dk → Int × List (Nat × List Bat) × Dk
  | [], d => (0, [], d)
  | s :: r, d =>
    if before < ((s.1 + cntT s.2 : Nat) : Int) then (0, s :: r, d)
    else if (d.remove (sname log s.1)).1 ≠ 0 then ((d.remove (sname log s.1)).1, s :: r, (d.remove (sname log s.1)).2)
    else if (d.remove (sname log s.1)).2.syncdir.1 ≠ 0 then ((d.remove (sname log s.1)).2.syncdir.1, r, (d.remove (sname log s.1)).2.syncdir.2)
    else dropL log before r (d.remove (sname log s.1)).2.syncdir.2
def Lg.dropT (log : ByteArray) (before : Int) (g : Lg) (d : Dk) : Int × Lg × Dk :=
  if g.dead = true then (9, g, d)
  else ((dropL log before g.ini d).1, ({ g with ini := (dropL log before g.ini d).2.1 } : Lg).dies (dropL log before g.ini d).1, (dropL log before g.ini d).2.2)

def LastF (g : Lg) (X : List Bat) (f : F0) : Prop :=
  f.there = true ∧ (f.named = true ∨ (g.dead = true ∧ g.lbs = [] ∧ g.ini ≠ [])) ∧ f.lasts ≤ f.bytes.length ∧
  ∃ tl t k, f.bytes = batsT g.lbs ++ tl ∧ batsT X = tl ++ t ∧ k ≤ g.lbs.length ∧ posT g.lbs k ≤ f.lasts ∧ g.stands ≤ g.lb + cntT (g.lbs.take k)
def IniF (log : ByteArray) (g : Lg) (f : F0) : Prop := ∃ s ∈ g.ini, f.name = sname log s.1 ∧ f.there = true ∧ f.named = true ∧ f.bytes = batsT s.2 ∧ f.lasts = f.bytes.length
def OldF (log : ByteArray) (A0 B0 : List Bat) (f : F0) : Prop := B0 ≠ [] ∧ f.name = sname log (cntT A0) ∧ f.there = false ∧ f.named = true ∧ f.bytes = batsT B0 ∧ f.lasts = f.bytes.length
structure CrI (log : ByteArray) (g : Lg) (d : Dk) (A0 B0 X : List Bat) : Prop where
  ok : LgOk g
  chain : Chain 0 (A0 ++ B0 ++ g.bats ++ X)
  begin : cntT (A0 ++ B0) = g.begin
  alive : g.dead = false → X = [] ∧ B0 = []
  has : ∀ s ∈ g.segs, ∃ f ∈ d.files, f.name = sname log s.1
  each : ∀ f ∈ d.files, IniF log g f ∨ (f.name = sname log g.lb ∧ LastF g X f) ∨ OldF log A0 B0 f
section
variable {log : ByteArray} {g : Lg} {d d' : Dk} {A0 B0 A X : List Bat}
theorem CrI.all (h : CrI log g d A0 B0 X) (hal : g.dead = false) {f : F0} (hf : f ∈ d.files) : f.there = true ∧ f.named = true ∧ (IniF log g f ∨ (f.name = sname log g.lb ∧ LastF g X f)) := by
  rcases h.each f hf with hi | ⟨hn, hl⟩ | ho
  · obtain ⟨s, -, -, h1, h2, -⟩ := id hi
    exact ⟨h1, h2, .inl hi⟩
  · refine ⟨hl.1, ?_, .inr ⟨hn, hl⟩⟩
    rcases hl.2.1 with e | e
    · exact e
    · rw [hal] at e
      cases e.1
  · exact absurd (h.alive hal).2 ho.1
theorem CrI.files (h : CrI log g d A0 B0 X) (e : d'.files = d.files) : CrI log g d' A0 B0 X :=
  { h with
    has := fun s hs => by rw [e]; exact h.has s hs
    each := fun f hf => h.each f (e ▸ hf) }
theorem find_of_mem {d : Dk} {f : F0} (hs : (d.files.map (·.name)).Pairwise (· < ·)) (hf : f ∈ d.files) (ht : f.there = true) : d.find f.name = some f := by
  have h1 : d.at f.name = some f := by
    have hnd : (d.files.map (·.name)).Nodup := hs.imp (fun {a b} hab he => by rw [he] at hab; exact List.lt_irrefl _ hab)
    unfold Dk.at
    generalize d.files = l at hf hnd
    induction l with
    | nil => cases hf
    | cons a r ih =>
      rw [List.map_cons, List.nodup_cons] at hnd
      rcases List.mem_cons.1 hf with rfl | h1
      · simp
      · have hne : ¬ a.name = f.name := fun e => hnd.1 (by rw [e]; exact List.mem_map_of_mem h1)
        rw [List.find?_cons_of_neg (by simpa using hne)]
        exact ih h1 hnd.2
  unfold Dk.find
  rw [h1, Option.filter_some]
  exact if_pos ht
theorem CrI.last (h : CrI log g d A0 B0 X) (hal : g.dead = false) (hlog : loggedB log.data.toList = true) {f : F0} (hf : f ∈ d.files) (hn : f.name = sname log g.lb) : LastF g X f := by
  rcases (h.all hal hf).2.2 with ⟨s, hs, e, -⟩ | ⟨-, hl⟩
  · exact absurd (e.symm.trans hn) (h.ok.names hlog s hs)
  · exact hl
theorem CrI.lastFind (h : CrI log g d A0 B0 X) (hal : g.dead = false) (hs : (d.files.map (·.name)).Pairwise (· < ·)) : ∃ f ∈ d.files, f.name = sname log g.lb ∧ d.find (sname log g.lb) = some f := by
  obtain ⟨f, hf, hn⟩ := h.has (g.lb, g.lbs) (by unfold Lg.segs; simp)
  exact ⟨f, hf, hn, by have := find_of_mem hs hf (h.all hal hf).1; rwa [hn] at this⟩
theorem mem_turn {d : Dk} {s : List UInt8} {t : F0 → F0} {f : F0} (hf : f ∈ (d.turn s t).files) : ∃ f0 ∈ d.files, (f0.name = s ∧ f = t f0) ∨ (f0.name ≠ s ∧ f = f0) := by
  obtain ⟨f0, h0, e⟩ := List.mem_map.1 hf
  refine ⟨f0, h0, ?_⟩
  by_cases hn : f0.name = s
  · rw [if_pos hn] at e
    exact .inl ⟨hn, e.symm⟩
  · rw [if_neg hn] at e
    exact .inr ⟨hn, e.symm⟩
theorem turn_mem {d : Dk} {s : List UInt8} {t : F0 → F0} (ht : ∀ f, (t f).name = f.name) {n : List UInt8} (h : ∃ f ∈ d.files, f.name = n) : ∃ f ∈ (d.turn s t).files, f.name = n := by
  obtain ⟨f, hf, hn⟩ := h
  refine ⟨if f.name = s then t f else f, List.mem_map_of_mem hf, ?_⟩
  split
  · rw [ht]; exact hn
  · exact hn
theorem CrI.turn (h : CrI log g d A0 B0 X) (hal : g.dead = false) (hlog : loggedB log.data.toList = true) {g' : Lg} {X' B' : List Bat} {t : F0 → F0} (ht : ∀ f, (t f).name = f.name) (hok : LgOk g') (hi : g'.ini = g.ini) (hb : g'.lb = g.lb) (hch : Chain 0 (A0 ++ B' ++ g'.bats ++ X')) (hB : cntT (A0 ++ B') = cntT (A0 ++ B0)) (hal' : g'.dead = false → X' = [] ∧ B' = [])
    (hl : ∀ f ∈ d.files, f.name = sname log g.lb → LastF g X f → LastF g' X' (t f)) : CrI log g' (d.turn (sname log g.lb) t) A0 B' X' where
  ok := hok
  chain := hch
  begin := by
    rw [hB, h.begin]
    unfold Lg.begin
    rw [hi, hb]
  alive := hal'
  has := fun s hs => by
    refine turn_mem ht ?_
    unfold Lg.segs at hs
    rw [hi, hb] at hs
    rcases List.mem_append.1 hs with hs | hs
    · exact h.has s (List.mem_append_left _ hs)
    · rw [List.mem_singleton] at hs
      subst hs
      exact h.has (g.lb, g.lbs) (by unfold Lg.segs; simp)
  each := fun f hf => by
    obtain ⟨f0, h0, ⟨hn, rfl⟩ | ⟨hn, rfl⟩⟩ := mem_turn hf
    · exact .inr (.inl ⟨by rw [ht, hb]; exact hn, hl f0 h0 hn (h.last hal hlog h0 hn)⟩)
    · rcases (h.all hal h0).2.2 with hini | ⟨e, -⟩
      · obtain ⟨s, hs, e⟩ := hini
        exact .inl ⟨s, by rw [hi]; exact hs, e⟩
      · exact absurd e hn
theorem LastF.die {f : F0} (h : LastF g [] f) : LastF { g with dead := true } X f := by
  obtain ⟨h1, h2, h3, tl, t, k, h4, h5, h6⟩ := h
  have h7 : tl = [] := by
    have : (batsT []).length = (tl ++ t).length := by rw [h5]
    rw [List.length_append] at this
    exact List.length_eq_zero_iff.1 (by simp [batsT] at this; omega)
  subst h7
  exact ⟨h1, h2.imp id (fun e => ⟨rfl, e.2⟩), h3, [], batsT X, k, h4, rfl, h6⟩
theorem CrI.die (h : CrI log g d A0 [] []) (hch : Chain 0 (A0 ++ [] ++ g.bats ++ X)) : CrI log { g with dead := true } d A0 [] X where
  ok := ⟨h.ok.chain, h.ok.behind, h.ok.ne, h.ok.stands⟩
  chain := hch
  begin := h.begin
  alive := fun e => by cases e
  has := h.has
  each := fun f hf => by
    rcases h.each f hf with hi | ⟨hn, hl⟩ | ho
    · exact .inl hi
    · exact .inr (.inl ⟨hn, hl.die⟩)
    · exact absurd rfl ho.1
theorem LgOk.chainL {g : Lg} (h : LgOk g) : Chain g.lb g.lbs ∧ g.lb ≤ 9007199254740992 := h.chain (g.lb, g.lbs) (by unfold Lg.segs; simp)
theorem CrI.sync (h : CrI log g d A0 [] []) (hal : g.dead = false) (hlog : loggedB log.data.toList = true) (hs : (d.files.map (·.name)).Pairwise (· < ·)) :
    CrI log g (d.sync (sname log g.lb)).2 A0 [] [] ∧ ((d.sync (sname log g.lb)).1 = 0 → CrI log { g with stands := g.fin } (d.sync (sname log g.lb)).2 A0 [] [] ∧
      ∀ f ∈ (d.sync (sname log g.lb)).2.files, f.name = sname log g.lb → f.there = true ∧ f.named = true ∧ f.bytes = batsT g.lbs ∧ f.lasts = f.bytes.length) := by
  obtain ⟨f, hf, hn, hfi⟩ := h.lastFind hal hs
  have e : d.sync (sname log g.lb) = (d.fate.1, d.next.turn (sname log g.lb) fun f => { f with lasts := if d.fate.1 = 0 then f.bytes.length else f.lasts + min (f.bytes.length - f.lasts) d.fate.2 }) := by
    unfold Dk.sync
    rw [if_neg (by rw [sname_nameOk hlog]; simp), hfi]
  have hN : CrI log g d.next A0 [] [] := h.files rfl
  have hnil : ∀ {f : F0}, LastF g [] f → f.bytes = batsT g.lbs := fun {f} hl => by
    obtain ⟨-, -, -, tl, t, k, h4, h5, -⟩ := hl
    have h7 : tl = [] := by
      have : (batsT []).length = (tl ++ t).length := by rw [h5]
      rw [List.length_append] at this
      exact List.length_eq_zero_iff.1 (by simp [batsT] at this; omega)
    rw [h4, h7, List.append_nil]
  rw [e]
  refine ⟨hN.turn hal hlog (t := fun f => { f with lasts := if d.fate.1 = 0 then f.bytes.length else f.lasts + min (f.bytes.length - f.lasts) d.fate.2 }) (fun _ => rfl) h.ok rfl rfl h.chain rfl h.alive (fun f0 _ _ hl => ?_), fun h0 => ?_⟩
  · obtain ⟨h1, h2, h3, tl, t, k, h4, h5, h6, h7, h8⟩ := hl
    have hle : f0.lasts ≤ (if d.fate.1 = 0 then f0.bytes.length else f0.lasts + min (f0.bytes.length - f0.lasts) d.fate.2) ∧ (if d.fate.1 = 0 then f0.bytes.length else f0.lasts + min (f0.bytes.length - f0.lasts) d.fate.2) ≤ f0.bytes.length := by
      split <;> omega
    exact ⟨h1, h2, hle.2, tl, t, k, h4, h5, h6, Nat.le_trans h7 hle.1, h8⟩
  · have h0 : d.fate.1 = 0 := h0
    have hT : (fun f : F0 => { f with lasts := if d.fate.1 = 0 then f.bytes.length else f.lasts + min (f.bytes.length - f.lasts) d.fate.2 }) = fun f => { f with lasts := f.bytes.length } := by
      funext f
      rw [if_pos h0]
    show CrI log { g with stands := g.fin } (d.next.turn (sname log g.lb) fun f : F0 => { f with lasts := if d.fate.1 = 0 then f.bytes.length else f.lasts + min (f.bytes.length - f.lasts) d.fate.2 }) A0 [] [] ∧ ∀ f ∈ (d.next.turn (sname log g.lb) fun f : F0 => { f with lasts := if d.fate.1 = 0 then f.bytes.length else f.lasts + min (f.bytes.length - f.lasts) d.fate.2 }).files, _
    rw [hT]
    refine ⟨hN.turn hal hlog (g' := { g with stands := g.fin }) (fun _ => rfl) h.ok.standsFin rfl rfl h.chain rfl h.alive (fun f0 _ _ hl => ?_), fun f hf hn => ?_⟩
    · have hb : f0.bytes = batsT g.lbs := hnil hl
      obtain ⟨h1, h2, h3, -⟩ := hl
      refine ⟨h1, h2, Nat.le_refl _, [], [], g.lbs.length, by rw [List.append_nil]; exact hb, rfl, Nat.le_refl _, ?_, ?_⟩
      · show _ ≤ f0.bytes.length
        rw [posT_all, hb]
        exact Nat.le_refl _
      · show g.fin ≤ g.lb + cntT (g.lbs.take g.lbs.length)
        rw [List.take_length]
        exact Nat.le_refl _
    · obtain ⟨f0, h0, ⟨hn', rfl⟩ | ⟨hn', rfl⟩⟩ := mem_turn hf
      · have hl := hN.last hal hlog h0 hn'
        obtain ⟨g1, g2, -⟩ := hN.all hal h0
        have hb0 : f0.bytes = batsT g.lbs := hnil hl
        exact ⟨g1, g2, hb0, rfl⟩
      · exact absurd hn hn'
theorem sync_sorted {d : Dk} {s : List UInt8} (hs : (d.files.map (·.name)).Pairwise (· < ·)) : ((d.sync s).2.files.map (·.name)).Pairwise (· < ·) := by
  rw [sync_names]
  exact hs
theorem chain_mid {b : Nat} {P Q R : List Bat} (h : Chain b (P ++ Q ++ R)) : Chain (b + cntT P) Q := by
  refine ⟨fun j hj => ?_, fun x hx => h.good x (by simp [hx])⟩
  have h1 := h.base (P.length + j) (by simp; omega)
  have e1 : (P ++ Q ++ R)[P.length + j]'(by simp; omega) = Q[j] := by
    rw [List.getElem_append_left (by simp; omega), List.getElem_append_right (by omega)]
    congr 1
    omega
  have e2 : (P ++ Q ++ R).take (P.length + j) = P ++ Q.take j := by
    rw [List.append_assoc, List.take_append, List.take_of_length_le (by omega), Nat.add_sub_cancel_left, List.take_append_of_le_length (by omega)]
  rw [e1, e2, cntT_append] at h1
  rw [h1]
  congr 1
  omega
theorem chain_end {b : Nat} {P : List Bat} {l : List Rc} {e : Int} (h : Chain b P) (he : e = ((b + cntT P : Nat) : Int)) (hg : GoodB e l) : Chain b (P ++ [(e, l)]) := by
  subst he
  exact h.snoc hg
theorem CrI.roll (h : CrI log g d A0 [] []) (hal : g.dead = false) (hlog : loggedB log.data.toList = true) (hs : (d.files.map (·.name)).Pairwise (· < ·)) (hne : g.lbs ≠ []) (hfin : g.fin ≤ 9007199254740992) :
    (g.rollT log d).2.1.fin = g.fin ∧ (g.rollT log d).2.1.bats = g.bats ∧ (g.rollT log d).2.1.dead = false ∧
    ((g.rollT log d).1 = 0 → CrI log (g.rollT log d).2.1 (g.rollT log d).2.2 A0 [] [] ∧ ((g.rollT log d).2.2.files.map (·.name)).Pairwise (· < ·)) ∧
    (∀ X, Chain 0 (A0 ++ [] ++ g.bats ++ X) → (g.rollT log d).1 ≠ 0 → CrI log { (g.rollT log d).2.1 with dead := true } (g.rollT log d).2.2 A0 [] X) := by
  obtain ⟨h1, h2⟩ := h.sync hal hlog hs
  have hs1 := sync_sorted (s := sname log g.lb) hs
  unfold Lg.rollT
  split
  · rename_i h0
    exact ⟨rfl, rfl, hal, fun e => absurd e h0, fun X hX _ => h1.die hX⟩
  · rename_i h0
    obtain ⟨h3, h4⟩ := h2 (Classical.byContradiction h0)
    split
    · rename_i hc
      have e : ((d.sync (sname log g.lb)).2.create (sname log g.fin)).2.files = (d.sync (sname log g.lb)).2.files := by
        unfold Dk.create at hc ⊢
        split
        · rfl
        · split
          · rfl
          · split
            · rfl
            · split
              · rfl
              · rename_i a1 a2 a3 a4
                rw [if_neg a1, if_neg a2, if_neg a3, if_neg a4] at hc
                exact absurd rfl hc
      exact ⟨rfl, rfl, hal, fun e => absurd e hc, fun X hX _ => (h3.die hX).files e⟩
    · rename_i hc
      have hc : ((d.sync (sname log g.lb)).2.create (sname log g.fin)).1 = 0 := Classical.byContradiction hc
      have e : ((d.sync (sname log g.lb)).2.create (sname log g.fin)).2.files = insF ⟨sname log g.fin, [], 0, true, false⟩ (d.sync (sname log g.lb)).2.files ∧ (d.sync (sname log g.lb)).2.at (sname log g.fin) = none := by
        unfold Dk.create at hc ⊢
        split
        · rename_i a1; rw [if_pos a1] at hc; cases hc
        · rename_i a1
          rw [if_neg a1] at hc
          split
          · rename_i a2; rw [if_pos a2] at hc; cases hc
          · rename_i a2
            rw [if_neg a2] at hc
            split
            · rename_i a3; rw [if_pos a3] at hc; cases hc
            · rename_i a3
              rw [if_neg a3] at hc
              split
              · rename_i a4; rw [if_pos a4] at hc; exact absurd hc a4
              · exact ⟨rfl, by simpa using a2⟩
      have hfi : Lg.fin ⟨g.segs, g.fin, [], g.fin, g.dead⟩ = g.fin := rfl
      have hbt : Lg.bats ⟨g.segs, g.fin, [], g.fin, g.dead⟩ = g.bats := by
        rw [Lg.bats_split]
        show g.segs.flatMap (·.2) ++ [] = g.bats
        rw [List.append_nil]
        rfl
      have hbg : Lg.begin ⟨g.segs, g.fin, [], g.fin, g.dead⟩ = g.begin := by
        show (match g.segs with | [] => _ | s :: _ => s.1) = _
        unfold Lg.begin Lg.segs
        cases g.ini <;> rfl
      have hini : ∀ f ∈ (d.sync (sname log g.lb)).2.files, IniF log ⟨g.segs, g.fin, [], g.fin, g.dead⟩ f := fun f hf => by
        rcases (h1.all hal hf).2.2 with ⟨s, hs, e⟩ | ⟨hn, -⟩
        · exact ⟨s, List.mem_append_left _ hs, e⟩
        · exact ⟨(g.lb, g.lbs), List.mem_append_right _ (by simp), hn, h4 f hf hn⟩
      have hnew : ∀ (m dd : Bool), m = true ∨ dd = true → ∀ X, LastF ⟨g.segs, g.fin, [], g.fin, dd⟩ X ⟨sname log g.fin, [], 0, true, m⟩ := fun m dd hm X =>
        ⟨rfl, hm.imp id (fun e => ⟨e, rfl, by unfold Lg.segs; simp⟩), Nat.le_refl _, [], batsT X, 0, rfl, rfl, Nat.le_refl _, Nat.le_refl _, Nat.le_refl _⟩
      have hhas : ∀ s ∈ g.segs ++ [(g.fin, [])], ∃ f ∈ insF ⟨sname log g.fin, [], 0, true, false⟩ (d.sync (sname log g.lb)).2.files, f.name = sname log s.1 := fun s hs => by
        rcases List.mem_append.1 hs with hs | hs
        · obtain ⟨f, hf, hn⟩ := h1.has s hs
          exact ⟨f, (mem_insF _ _ _).2 (.inr hf), hn⟩
        · rw [List.mem_singleton] at hs
          subst hs
          exact ⟨_, (mem_insF _ _ _).2 (.inl rfl), rfl⟩
      have hpair : ((insF ⟨sname log g.fin, [], 0, true, false⟩ (d.sync (sname log g.lb)).2.files).map (·.name)).Pairwise (· < ·) := insF_sorted _ _ hs1 (fun f hf hn => by
        have := List.find?_eq_none.1 e.2 f hf
        simp at this
        exact this hn)
      refine ⟨rfl, hbt, hal, fun hd => ?_, fun X hX hd => ?_⟩
      · have ef : ((d.sync (sname log g.lb)).2.create (sname log g.fin)).2.syncdir.2.files = ((insF ⟨sname log g.fin, [], 0, true, false⟩ (d.sync (sname log g.lb)).2.files).filter (·.there)).map fun f => { f with named := true } := by
          rw [← e.1]
          unfold Dk.syncdir at hd ⊢
          split
          · rename_i a; rw [if_pos a] at hd; exact absurd hd a
          · rfl
        have hth : (insF ⟨sname log g.fin, [], 0, true, false⟩ (d.sync (sname log g.lb)).2.files).filter (·.there) = insF ⟨sname log g.fin, [], 0, true, false⟩ (d.sync (sname log g.lb)).2.files := by
          rw [List.filter_eq_self]
          intro f hf
          rcases (mem_insF _ _ _).1 hf with rfl | hf
          · rfl
          · exact (h1.all hal hf).1
        rw [hth] at ef
        refine ⟨⟨h.ok.rolled hne hfin, by rw [hbt]; exact h.chain, by rw [h.begin, hbg], h.alive, fun s hs => ?_, fun f hf => ?_⟩, ?_⟩
        · obtain ⟨f, hf, hn⟩ := hhas s hs
          rw [ef]
          exact ⟨_, List.mem_map_of_mem hf, hn⟩
        · rw [ef] at hf
          obtain ⟨f0, h0, rfl⟩ := List.mem_map.1 hf
          rcases (mem_insF _ _ _).1 h0 with rfl | h0
          · exact .inr (.inl ⟨rfl, hnew true g.dead (.inl rfl) []⟩)
          · obtain ⟨s, hs, e1, e2, e3, e4⟩ := hini f0 h0
            exact .inl ⟨s, hs, e1, e2, rfl, e4⟩
        · rw [ef, List.map_map]
          exact hpair
      · have ef : ((d.sync (sname log g.lb)).2.create (sname log g.fin)).2.syncdir.2.files = insF ⟨sname log g.fin, [], 0, true, false⟩ (d.sync (sname log g.lb)).2.files := by
          rw [← e.1]
          unfold Dk.syncdir at hd ⊢
          split
          · rfl
          · rename_i a; rw [if_neg a] at hd; exact absurd rfl hd
        have hro := h.ok.rolled hne hfin
        refine ⟨⟨hro.chain, hro.behind, hro.ne, hro.stands⟩, ?_, by rw [h.begin]; exact hbg.symm, fun e => (by cases e), fun s hs => ?_, fun f hf => ?_⟩
        · have : Lg.bats { (⟨g.segs, g.fin, [], g.fin, g.dead⟩ : Lg) with dead := true } = g.bats := hbt
          rw [this]
          exact hX
        · rw [ef]
          exact hhas s hs
        · rw [ef] at hf
          rcases (mem_insF _ _ _).1 hf with rfl | h0
          · exact .inr (.inl ⟨rfl, hnew false true (.inr rfl) X⟩)
          · exact .inl (hini f h0)
theorem posT_snoc {bs : List Bat} {b : Bat} {j : Nat} (h : j ≤ bs.length) : posT (bs ++ [b]) j = posT bs j := by
  unfold posT
  rw [List.take_append_of_le_length h]
theorem CrI.add (h : CrI log g d A0 [] []) (hal : g.dead = false) (hlog : loggedB log.data.toList = true) (hs : (d.files.map (·.name)).Pairwise (· < ·)) {l : List Rc} (hg : GoodB (g.fin : Int) l) :
    ((g.addT log d l).1 = 0 → CrI log (g.addT log d l).2.1 (g.addT log d l).2.2 A0 [] [] ∧ (g.addT log d l).2.1.bats = g.bats ++ [((g.fin : Int), l)] ∧ (g.addT log d l).2.1.dead = false) ∧
    ((g.addT log d l).1 ≠ 0 → (g.addT log d l).2.1 = g ∧ CrI log { g with dead := true } (g.addT log d l).2.2 A0 [] [((g.fin : Int), l)]) := by
  obtain ⟨f, hf, hn, hfi⟩ := h.lastFind hal hs
  have hch : Chain 0 (A0 ++ [] ++ g.bats ++ [((g.fin : Int), l)]) := by
    have h1 := h.chain
    rw [List.append_nil] at h1
    refine chain_end h1 ?_ hg
    rw [cntT_append, h.begin, h.ok.fin_bats]
    congr 1
    omega
  have hN : CrI log g d.next A0 [] [] := h.files rfl
  have hbt : Lg.bats { g with lbs := g.lbs ++ [((g.fin : Int), l)] } = g.bats ++ [((g.fin : Int), l)] := by
    rw [Lg.bats_split, Lg.bats_split, List.append_assoc]
  have hnil : ∀ {f : F0}, LastF g [] f → f.bytes = batsT g.lbs := fun {f} hl => by
    obtain ⟨-, -, -, tl, t, k, h4, h5, -⟩ := hl
    have h7 : tl = [] := by
      have : (batsT []).length = (tl ++ t).length := by rw [h5]
      rw [List.length_append] at this
      exact List.length_eq_zero_iff.1 (by simp [batsT] at this; omega)
    rw [h4, h7, List.append_nil]
  have hnm : ¬ nameOk (sname log g.lb) = false := by rw [sname_nameOk hlog]; simp
  by_cases hz : 16777216 < (batchT (g.fin : Int) l).length + f.bytes.length
  · have e : d.append (sname log g.lb) (batchT (g.fin : Int) l) = (6, d) := by
      unfold Dk.append
      rw [if_neg hnm, hfi]
      exact if_pos hz
    unfold Lg.addT
    rw [e]
    refine ⟨fun e => (by cases e), fun _ => ⟨rfl, h.die hch⟩⟩
  · have e : d.append (sname log g.lb) (batchT (g.fin : Int) l) = (d.fate.1, d.next.turn (sname log g.lb) fun f => { f with bytes := f.bytes ++ (if d.fate.1 = 0 then batchT (g.fin : Int) l else (batchT (g.fin : Int) l).take d.fate.2) }) := by
      unfold Dk.append
      rw [if_neg hnm, hfi]
      exact if_neg hz
    unfold Lg.addT
    rw [e]
    refine ⟨fun h0 => ?_, fun h0 => ?_⟩
    · have h0 : d.fate.1 = 0 := h0
      dsimp only
      rw [if_pos h0]
      refine ⟨hN.turn hal hlog (t := fun f => { f with bytes := f.bytes ++ (if d.fate.1 = 0 then batchT (g.fin : Int) l else (batchT (g.fin : Int) l).take d.fate.2) }) (fun _ => rfl) (h.ok.add hg) rfl rfl (by rw [List.append_nil, hbt, ← List.append_assoc]; exact hch) rfl (fun _ => ⟨rfl, rfl⟩) (fun f0 _ _ hl => ?_), hbt, hal⟩
      have hb := hnil hl
      obtain ⟨h1, h2, h3, tl, t, k, h4, h5, h6, h7, h8⟩ := hl
      rw [if_pos h0]
      refine ⟨h1, .inl ?_, ?_, [], [], k, ?_, rfl, ?_, ?_, ?_⟩
      · rcases h2 with e | e
        · exact e
        · rw [hal] at e
          cases e.1
      · show f0.lasts ≤ (f0.bytes ++ _).length
        rw [List.length_append]
        omega
      · show f0.bytes ++ _ = batsT (g.lbs ++ [((g.fin : Int), l)]) ++ []
        rw [batsT_append, hb, List.append_nil]
        simp [batsT]
      · show k ≤ (g.lbs ++ [((g.fin : Int), l)]).length
        rw [List.length_append]
        omega
      · show posT (g.lbs ++ [((g.fin : Int), l)]) k ≤ f0.lasts
        rw [posT_snoc h6]
        exact h7
      · show g.stands ≤ g.lb + cntT ((g.lbs ++ [((g.fin : Int), l)]).take k)
        rw [List.take_append_of_le_length h6]
        exact h8
    · have h0 : ¬ d.fate.1 = 0 := h0
      dsimp only
      rw [if_neg h0]
      refine ⟨rfl, hN.turn hal hlog (g' := { g with dead := true }) (t := fun f => { f with bytes := f.bytes ++ (if d.fate.1 = 0 then batchT (g.fin : Int) l else (batchT (g.fin : Int) l).take d.fate.2) }) (fun _ => rfl) ⟨h.ok.chain, h.ok.behind, h.ok.ne, h.ok.stands⟩ rfl rfl hch rfl (fun e => by cases e) (fun f0 _ _ hl => ?_)⟩
      have hb := hnil hl
      obtain ⟨h1, h2, h3, tl, t, k, h4, h5, h6, h7, h8⟩ := hl
      rw [if_neg h0]
      refine ⟨h1, h2.imp id (fun e => ⟨rfl, e.2⟩), ?_, (batchT (g.fin : Int) l).take d.fate.2, (batchT (g.fin : Int) l).drop d.fate.2, k, ?_, ?_, h6, h7, h8⟩
      · show f0.lasts ≤ (f0.bytes ++ _).length
        rw [List.length_append]
        omega
      · show f0.bytes ++ _ = batsT g.lbs ++ _
        rw [hb]
      · rw [List.take_append_drop]
        simp [batsT]
theorem CrI.append (h : CrI log g d A0 [] []) (hal : g.dead = false) (hlog : loggedB log.data.toList = true) (hs : (d.files.map (·.name)).Pairwise (· < ·)) {roll : Nat} (hroll : 1 ≤ roll) (l : List Rc) :
    ((g.appendT log roll d l).1 ≠ 0 ∧ (g.appendT log roll d l).2 = (g, d)) ∨
    ((g.appendT log roll d l).1 = 0 ∧ CrI log (g.appendT log roll d l).2.1 (g.appendT log roll d l).2.2 A0 [] [] ∧ (g.appendT log roll d l).2.1.bats = g.bats ++ [((g.fin : Int), l)] ∧ (g.appendT log roll d l).2.1.dead = false) ∨
    ((g.appendT log roll d l).1 ≠ 0 ∧ CrI log (g.appendT log roll d l).2.1 (g.appendT log roll d l).2.2 A0 [] [((g.fin : Int), l)] ∧ (g.appendT log roll d l).2.1.bats = g.bats ∧ (g.appendT log roll d l).2.1.dead = true) := by
  unfold Lg.appendT
  rw [if_neg (by rw [hal]; simp)]
  split
  · rename_i h1
    exact .inl ⟨h1, rfl⟩
  · rename_i h1
    split
    · exact .inl ⟨show (8 : Int) ≠ 0 by decide, rfl⟩
    · rename_i h2
      have h1 : (fitsT l).2 = 0 := Classical.byContradiction h1
      have hg := (fits_good (base := (g.fin : Int)) h1 (by omega) (by omega)).1
      have hpos := hg.pos.1
      have hch : Chain 0 (A0 ++ [] ++ g.bats ++ [((g.fin : Int), l)]) := by
        have h1 := h.chain
        rw [List.append_nil] at h1
        refine chain_end h1 ?_ hg
        rw [cntT_append, h.begin, h.ok.fin_bats]
        congr 1
        omega
      have key : ∀ (G : Lg) (D : Dk), CrI log G D A0 [] [] → G.dead = false → (D.files.map (·.name)).Pairwise (· < ·) → G.fin = g.fin → G.bats = g.bats →
          ((G.addT log D l).1 = 0 ∧ CrI log ((G.addT log D l).2.1.dies (G.addT log D l).1) (G.addT log D l).2.2 A0 [] [] ∧ ((G.addT log D l).2.1.dies (G.addT log D l).1).bats = g.bats ++ [((g.fin : Int), l)] ∧ ((G.addT log D l).2.1.dies (G.addT log D l).1).dead = false) ∨
          ((G.addT log D l).1 ≠ 0 ∧ CrI log ((G.addT log D l).2.1.dies (G.addT log D l).1) (G.addT log D l).2.2 A0 [] [((g.fin : Int), l)] ∧ ((G.addT log D l).2.1.dies (G.addT log D l).1).bats = g.bats ∧ ((G.addT log D l).2.1.dies (G.addT log D l).1).dead = true) := by
        intro G D hc ha hS hf hb
        obtain ⟨k1, k2⟩ := hc.add ha hlog hS (l := l) (by rw [hf]; exact hg)
        rw [hf, hb] at k1
        rw [hf] at k2
        by_cases h0 : (G.addT log D l).1 = 0
        · obtain ⟨a1, a2, a3⟩ := k1 h0
          refine .inl ⟨h0, ?_⟩
          unfold Lg.dies
          rw [if_pos h0]
          exact ⟨a1, a2, a3⟩
        · obtain ⟨a1, a2⟩ := k2 h0
          refine .inr ⟨h0, ?_⟩
          unfold Lg.dies
          rw [if_neg h0, a1]
          exact ⟨a2, hb, rfl⟩
      unfold Lg.pushT
      split
      · rename_i h3
        have hne : g.lbs ≠ [] := fun e => by
          rw [e] at h3
          have h3 : roll ≤ 0 := h3
          omega
        obtain ⟨r1, r2, r3, r4, r5⟩ := h.roll hal hlog hs hne (by omega)
        split
        · rename_i h4
          refine .inr (.inr ⟨h4, ?_⟩)
          unfold Lg.dies
          rw [if_neg h4]
          exact ⟨r5 _ hch h4, r2, rfl⟩
        · rename_i h4
          obtain ⟨c1, c2⟩ := r4 (Classical.byContradiction h4)
          exact .inr (key _ _ c1 r3 c2 r1 r2)
      · exact .inr (key g d h hal hs rfl rfl)
theorem CrI.syncT (h : CrI log g d A0 [] []) (hal : g.dead = false) (hlog : loggedB log.data.toList = true) (hs : (d.files.map (·.name)).Pairwise (· < ·)) : CrI log (g.syncT log d).2.1 (g.syncT log d).2.2 A0 [] [] ∧ (g.syncT log d).2.1.bats = g.bats := by
  obtain ⟨h1, h2⟩ := h.sync hal hlog hs
  unfold Lg.syncT
  rw [if_neg (by rw [hal]; simp)]
  split
  · exact ⟨h1.die (by have := h.chain; rwa [List.append_nil] at this ⊢), rfl⟩
  · rename_i h0
    exact ⟨(h2 (Classical.byContradiction h0)).1, rfl⟩
theorem LgOk.tail {s : Nat × List Bat} {r : List (Nat × List Bat)} (h : LgOk { g with ini := s :: r }) : LgOk { g with ini := r } ∧ Lg.begin { g with ini := r } = s.1 + cntT s.2 := by
  have hb : Behind (s.1 + (recsT s.2).length) ((r ++ [(g.lb, g.lbs)]).map fun s => (s.1, recsT s.2)) := h.behind.2
  rw [recsT_len] at hb
  have e : Lg.begin { g with ini := r } = s.1 + cntT s.2 := by
    unfold Lg.begin
    cases r with
    | nil => exact hb.1
    | cons x y => exact hb.1
  refine ⟨⟨fun x hx => h.chain x (List.mem_cons_of_mem _ hx), by rw [e]; exact hb, fun x hx => h.ne x (List.mem_cons_of_mem _ hx), h.stands⟩, e⟩
theorem LgOk.same {g : Lg} (h : LgOk g) {s t : Nat × List Bat} (hs : s ∈ g.segs) (ht : t ∈ g.segs) (e : s.1 = t.1) : s = t := by
  have h1 := h.rises
  generalize g.segs = l at h1 hs ht
  induction l with
  | nil => cases hs
  | cons a r ih =>
    rw [List.map_cons, List.pairwise_cons] at h1
    rcases List.mem_cons.1 hs with rfl | hs'
    · rcases List.mem_cons.1 ht with rfl | ht'
      · rfl
      · have := h1.1 t.1 (List.mem_map_of_mem ht'); omega
    · rcases List.mem_cons.1 ht with rfl | ht'
      · have := h1.1 s.1 (List.mem_map_of_mem hs'); omega
      · exact ih h1.2 hs' ht'
theorem CrI.remove {s : Nat × List Bat} {r : List (Nat × List Bat)} (h : CrI log { g with ini := s :: r } d A0 [] []) (hal : g.dead = false) (hlog : loggedB log.data.toList = true) (hs : (d.files.map (·.name)).Pairwise (· < ·)) :
    ((d.remove (sname log s.1)).1 ≠ 0 → (d.remove (sname log s.1)).2.files = d.files) ∧
    ((d.remove (sname log s.1)).1 = 0 → ((d.remove (sname log s.1)).2.files.map (·.name)) = d.files.map (·.name) ∧
      (∀ f ∈ (d.remove (sname log s.1)).2.files, OldF log A0 s.2 f ∨ (f ∈ d.files ∧ f.there = true ∧ f.named = true ∧ (IniF log { g with ini := r } f ∨ (f.name = sname log g.lb ∧ LastF g [] f)))) ∧
      ∀ t ∈ r ++ [(g.lb, g.lbs)], ∃ f ∈ (d.remove (sname log s.1)).2.files, f.name = sname log t.1 ∧ f.there = true) := by
  have hmem : s ∈ Lg.segs { g with ini := s :: r } := by unfold Lg.segs; simp
  obtain ⟨f, hf, hn⟩ := h.has s hmem
  obtain ⟨ht, hnamed, -⟩ := h.all hal hf
  have hfi : d.find (sname log s.1) = some f := by have := find_of_mem hs hf ht; rwa [hn] at this
  have hnm : ¬ nameOk (sname log s.1) = false := by rw [sname_nameOk hlog]; simp
  by_cases h0 : d.fate.1 = 0
  · have e : d.remove (sname log s.1) = (0, d.next.turn (sname log s.1) fun f => { f with bytes := f.bytes.take f.lasts, there := false }) := by
      unfold Dk.remove
      rw [if_neg hnm, hfi]
      dsimp only
      rw [if_neg (by rw [h0]; simp), if_pos hnamed]
    rw [e]
    refine ⟨fun e => absurd rfl e, fun _ => ⟨?_, fun f' hf' => ?_, fun t ht' => ?_⟩⟩
    · show (d.files.map _).map _ = _
      rw [List.map_map]
      refine List.map_congr_left fun x _ => ?_
      show (if x.name = sname log s.1 then _ else x : F0).name = x.name
      split <;> rfl
    · obtain ⟨f0, h1, ⟨hn', rfl⟩ | ⟨hn', rfl⟩⟩ := mem_turn hf'
      · rcases (h.all hal h1).2.2 with ⟨s', hs', e1, e2, e3, e4, e5⟩ | ⟨e1, -⟩
        · have hsg : s' ∈ Lg.segs { g with ini := s :: r } := List.mem_append_left _ hs'
          have : s' = s := h.ok.same hsg hmem (sname_inj hlog (h.ok.chain s' hsg).2 (h.ok.chain s hmem).2 (e1.symm.trans hn'))
          subst this
          refine .inl ⟨h.ok.ne s' (List.mem_cons_self ..), ?_, rfl, e3, ?_, ?_⟩
          · show f0.name = _
            rw [e1]
            have := h.begin
            rw [List.append_nil] at this
            rw [this]
            rfl
          · show f0.bytes.take f0.lasts = _
            rw [e5, List.take_length]
            exact e4
          · show f0.lasts = (f0.bytes.take f0.lasts).length
            rw [List.length_take, e5]
            omega
        · exact absurd (hn'.symm.trans e1) (h.ok.names hlog s (List.mem_cons_self ..))
      · obtain ⟨a1, a2, a3⟩ := h.all hal h1
        refine .inr ⟨h1, a1, a2, ?_⟩
        rcases a3 with ⟨s', hs', e1, e2⟩ | ⟨e1, e2⟩
        · rcases List.mem_cons.1 hs' with rfl | hs'
          · exact absurd e1 hn'
          · exact .inl ⟨s', hs', e1, e2⟩
        · refine .inr ⟨e1, ?_⟩
          obtain ⟨b1, -, b3⟩ := e2
          exact ⟨b1, .inl a2, b3⟩
    · have hsg : t ∈ Lg.segs { g with ini := s :: r } := List.mem_cons_of_mem _ ht'
      obtain ⟨f1, h1, hn1⟩ := h.has t hsg
      have hne : f1.name ≠ sname log s.1 := fun e => by
        have h2 := sname_inj hlog (h.ok.chain t hsg).2 (h.ok.chain s hmem).2 (hn1.symm.trans e)
        have h3 := h.ok.rises
        have h4 : s.1 < t.1 := by
          have : (s :: (r ++ [(g.lb, g.lbs)])).map (·.1) = (Lg.segs { g with ini := s :: r }).map (·.1) := rfl
          rw [← this, List.map_cons, List.pairwise_cons] at h3
          exact h3.1 t.1 (List.mem_map_of_mem ht')
        omega
      refine ⟨f1, ?_, hn1, (h.all hal h1).1⟩
      have := List.mem_map_of_mem (f := fun f : F0 => if f.name = sname log s.1 then { f with bytes := f.bytes.take f.lasts, there := false } else f) h1
      rw [if_neg hne] at this
      exact this
  · have e : d.remove (sname log s.1) = (d.fate.1, d.next) := by
      unfold Dk.remove
      rw [if_neg hnm, hfi]
      dsimp only
      rw [if_pos h0]
    rw [e]
    exact ⟨fun _ => rfl, fun e => absurd e h0⟩
theorem CrI.drops (hal : g.dead = false) (hlog : loggedB log.data.toList = true) (before : Int) : ∀ (ini : List (Nat × List Bat)) (d : Dk) (A0 : List Bat), CrI log { g with ini := ini } d A0 [] [] → (d.files.map (·.name)).Pairwise (· < ·) →
    ((dropL log before ini d).1 = 0 → ∃ A1, CrI log { g with ini := (dropL log before ini d).2.1 } (dropL log before ini d).2.2 A1 [] [] ∧ A1 ++ Lg.bats { g with ini := (dropL log before ini d).2.1 } = A0 ++ Lg.bats { g with ini := ini }) ∧
    ((dropL log before ini d).1 ≠ 0 → ∃ A1 B1, CrI log { g with ini := (dropL log before ini d).2.1, dead := true } (dropL log before ini d).2.2 A1 B1 [] ∧ A1 ++ B1 ++ Lg.bats { g with ini := (dropL log before ini d).2.1 } = A0 ++ Lg.bats { g with ini := ini })
  | [], d, A0, h, hs => ⟨fun _ => ⟨A0, h, rfl⟩, fun e => absurd rfl e⟩
  | s :: r, d, A0, h, hs => by
    unfold dropL
    split
    · exact ⟨fun _ => ⟨A0, h, rfl⟩, fun e => absurd rfl e⟩
    · obtain ⟨k1, k2⟩ := h.remove hal hlog hs
      split
      · rename_i h0
        refine ⟨fun e => absurd e h0, fun _ => ⟨A0, [], (h.die (X := []) (by have := h.chain; rwa [List.append_nil] at this ⊢)).files (k1 h0), by rw [List.append_nil]⟩⟩
      · rename_i h0
        obtain ⟨m1, m2, m3⟩ := k2 (Classical.byContradiction h0)
        obtain ⟨t1, t2⟩ := h.ok.tail
        have hb0 : cntT (A0 ++ s.2) = Lg.begin { g with ini := r } := by
          rw [t2, cntT_append]
          have := h.begin
          rw [List.append_nil] at this
          rw [this]
          rfl
        have hbt : Lg.bats { g with ini := s :: r } = s.2 ++ Lg.bats { g with ini := r } := by
          unfold Lg.bats Lg.segs
          rfl
        have hch : Chain 0 (A0 ++ s.2 ++ Lg.bats { g with ini := r }) := by
          have := h.chain
          rw [List.append_nil, List.append_nil, hbt, ← List.append_assoc] at this
          exact this
        split
        · rename_i h1
          have ef : (d.remove (sname log s.1)).2.syncdir.2.files = (d.remove (sname log s.1)).2.files := by
            unfold Dk.syncdir at h1 ⊢
            split
            · rfl
            · rename_i a; rw [if_neg a] at h1; exact absurd rfl h1
          refine ⟨fun e => absurd e h1, fun _ => ⟨A0, s.2, ⟨⟨t1.chain, t1.behind, t1.ne, t1.stands⟩, by rw [List.append_nil]; exact hch, hb0, fun e => (by cases e), fun t ht => ?_, fun f hf => ?_⟩, by rw [hbt, List.append_assoc]⟩⟩
          · obtain ⟨f, hf, hn, -⟩ := m3 t ht
            exact ⟨f, by rw [ef]; exact hf, hn⟩
          · rw [ef] at hf
            rcases m2 f hf with ho | ⟨-, b1, b2, hi | ⟨hn, hl⟩⟩
            · exact .inr (.inr ho)
            · exact .inl hi
            · refine .inr (.inl ⟨hn, ?_⟩)
              obtain ⟨c1, -, c3⟩ := hl
              exact ⟨c1, .inl b2, c3⟩
        · rename_i h1
          have ef : (d.remove (sname log s.1)).2.syncdir.2.files = ((d.remove (sname log s.1)).2.files.filter (·.there)).map fun f => { f with named := true } := by
            unfold Dk.syncdir at h1 ⊢
            split
            · rename_i a; rw [if_pos a] at h1; exact absurd a h1
            · rfl
          have hs2 : ((d.remove (sname log s.1)).2.syncdir.2.files.map (·.name)).Pairwise (· < ·) := by
            rw [ef, List.map_map]
            have h3 : (d.remove (sname log s.1)).2.files.map (·.name) |>.Pairwise (· < ·) := by rw [m1]; exact hs
            exact h3.sublist ((List.filter_sublist (p := fun f : F0 => f.there)).map (fun f : F0 => f.name))
          have hc : CrI log { g with ini := r } (d.remove (sname log s.1)).2.syncdir.2 (A0 ++ s.2) [] [] := ⟨t1, by rw [List.append_nil, List.append_nil]; exact hch, by rw [List.append_nil]; exact hb0, fun _ => ⟨rfl, rfl⟩, fun t ht => by
            obtain ⟨f, hf, hn, hth⟩ := m3 t ht
            rw [ef]
            exact ⟨{ f with named := true }, List.mem_map_of_mem (List.mem_filter.2 ⟨hf, hth⟩), hn⟩, fun f hf => by
            rw [ef] at hf
            obtain ⟨f0, h4, rfl⟩ := List.mem_map.1 hf
            obtain ⟨h5, h6⟩ := List.mem_filter.1 h4
            rcases m2 f0 h5 with ho | ⟨-, b1, b2, hi | ⟨hn, hl⟩⟩
            · rw [ho.2.2.1] at h6
              cases h6
            · obtain ⟨x, hx, y1, y2, -, y4⟩ := hi
              exact .inl ⟨x, hx, y1, y2, rfl, y4⟩
            · refine .inr (.inl ⟨hn, ?_⟩)
              obtain ⟨c1, -, c3⟩ := hl
              exact ⟨c1, .inl rfl, c3⟩⟩
          obtain ⟨z1, z2⟩ := CrI.drops hal hlog before r _ _ hc hs2
          rw [hbt, ← List.append_assoc]
          exact ⟨z1, z2⟩
theorem CrI.drop (h : CrI log g d A0 [] []) (hal : g.dead = false) (hlog : loggedB log.data.toList = true) (hs : (d.files.map (·.name)).Pairwise (· < ·)) (before : Int) :
    ∃ A1 B1, CrI log (g.dropT log before d).2.1 (g.dropT log before d).2.2 A1 B1 [] ∧ A1 ++ B1 ++ (g.dropT log before d).2.1.bats = A0 ++ g.bats := by
  obtain ⟨h1, h2⟩ := CrI.drops hal hlog before g.ini d A0 h hs
  unfold Lg.dropT
  rw [if_neg (by rw [hal]; simp)]
  by_cases h0 : (dropL log before g.ini d).1 = 0
  · obtain ⟨A1, k1, k2⟩ := h1 h0
    refine ⟨A1, [], ?_, ?_⟩
    · unfold Lg.dies
      rw [if_pos h0]
      exact k1
    · unfold Lg.dies
      rw [if_pos h0, List.append_nil]
      exact k2
  · obtain ⟨A1, B1, k1, k2⟩ := h2 h0
    refine ⟨A1, B1, ?_, ?_⟩
    · unfold Lg.dies
      rw [if_neg h0]
      exact k1
    · unfold Lg.dies
      rw [if_neg h0]
      exact k2
end
end Go.Proofs.YtlgcoaeddeiegaaGreat
/- Disk: all names, rising. -/
namespace Go.Proofs.YtlgcoaeddeiegaaGreat
open Go Go.RowKit Go.Maps Go.Sort Go.Shelf
open Go.Proofs (encStr)

def keysL_ren : Go.Shelf.Ren := ⟨fun | 7 => 159 | 10 => 195 | n => n, fun | 23 => 118 | 26 => 9 | 3 => 175 | 28 => 244 | 0 => 0 | 27 => 243 | 33 => 268 | 4 => 4 | n => n, fun | n => n⟩
theorem keysL : Go.Proofs.SlLaysZ.n7 Tryz.prog keysL_ren := {
  mixed := by kernel_rfl
  f7 := ⟨Tryz.f159.name, by decide, Tryz.func159.trans (congrArg some (by kernel_rfl))⟩
  f10 := ⟨Tryz.f195.name, by decide, Tryz.func195.trans (congrArg some (by kernel_rfl))⟩
  t0 := Tryz.underlying0
  a0 := Tryz.isAgg0
  z0 := Tryz.sizeOf0
  v0 := Tryz.zeroValue0
  t4 := Tryz.underlying4
  a4 := Tryz.isAgg4
  z4 := Tryz.sizeOf4
  v4 := Tryz.zeroValue4
  t23 := Tryz.underlying118
  a23 := Tryz.isAgg118
  z23 := Tryz.sizeOf118
  v23 := Tryz.zeroValue118
  t26 := Tryz.underlying9
  a26 := Tryz.isAgg9
  z26 := Tryz.sizeOf9
  v26 := Tryz.zeroValue9
  t27 := Tryz.underlying243
  a27 := Tryz.isAgg243
  z27 := Tryz.sizeOf243
  v27 := Tryz.zeroValue243
  t28 := Tryz.underlying244
  a28 := Tryz.isAgg244
  z28 := Tryz.sizeOf244
  v28 := Tryz.zeroValue244
  t33 := Tryz.underlying268
  a33 := Tryz.isAgg268
  z33 := Tryz.sizeOf268
  v33 := Tryz.zeroValue268
}
def sortedL_ren : Go.Shelf.Ren := ⟨fun | 6 => 131 | 8 => 182 | 9 => 183 | 11 => 209 | 13 => 211 | 12 => 210 | 23 => 225 | 24 => 226 | 14 => 216 | 15 => 217 | 16 => 218 | 17 => 219 | 18 => 220 | 19 => 221 | 20 => 222 | 21 => 223 | 22 => 224 | 25 => 228 | 26 => 229 | 27 => 230 | 28 => 231 | 29 => 232 | 30 => 233 | 31 => 234 | n => n, fun | 26 => 9 | 28 => 244 | 24 => 43 | 0 => 0 | 3 => 3 | 37 => 172 | 48 => 315 | 50 => 314 | 4 => 4 | 40 => 343 | 39 => 342 | 45 => 303 | 5 => 5 | 9 => 9 | 51 => 353 | 55 => 357 | 57 => 359 | 58 => 360 | 33 => 268 | n => n, fun | n => n⟩
theorem sortedL : Go.Proofs.SlLaysZ.n6 Tryz.prog sortedL_ren := {
  mixed := by kernel_rfl
  f6 := ⟨Tryz.f131.name, by decide, Tryz.func131.trans (congrArg some (by kernel_rfl))⟩
  f8 := ⟨Tryz.f182.name, by decide, Tryz.func182.trans (congrArg some (by kernel_rfl))⟩
  f11 := ⟨Tryz.f209.name, by decide, Tryz.func209.trans (congrArg some (by kernel_rfl))⟩
  t0 := Tryz.underlying0
  a0 := Tryz.isAgg0
  z0 := Tryz.sizeOf0
  v0 := Tryz.zeroValue0
  t24 := Tryz.underlying43
  a24 := Tryz.isAgg43
  z24 := Tryz.sizeOf43
  v24 := Tryz.zeroValue43
  t26 := Tryz.underlying9
  a26 := Tryz.isAgg9
  z26 := Tryz.sizeOf9
  v26 := Tryz.zeroValue9
  t28 := Tryz.underlying244
  a28 := Tryz.isAgg244
  z28 := Tryz.sizeOf244
  v28 := Tryz.zeroValue244
  i26 := by kernel_rfl
}
def sortL_ren : Go.Shelf.Ren := ⟨fun | 6 => 183 | 8 => 211 | 9 => 210 | 19 => 225 | 20 => 226 | 21 => 216 | 22 => 217 | 23 => 218 | 24 => 219 | 25 => 220 | 26 => 221 | 27 => 222 | 28 => 223 | 29 => 224 | 36 => 228 | 31 => 229 | 32 => 230 | 37 => 231 | 38 => 232 | 39 => 233 | 41 => 234 | n => n, fun | 27 => 43 | 29 => 9 | 3 => 3 | 32 => 172 | 26 => 43 | 0 => 0 | 44 => 315 | 46 => 314 | 4 => 4 | 36 => 343 | 35 => 342 | 41 => 303 | 5 => 5 | 9 => 9 | 53 => 353 | 57 => 357 | 63 => 359 | 64 => 360 | n => n, fun | n => n⟩
theorem sortL : Go.Proofs.SlLaysM.n6 Tryz.prog sortL_ren := {
  mixed := by kernel_rfl
  f6 := ⟨Tryz.f183.name, by decide, Tryz.func183.trans (congrArg some (by kernel_rfl))⟩
  f8 := Tryz.func211.trans (congrArg some (by kernel_rfl))
  f9 := ⟨Tryz.f210.name, by decide, Tryz.func210.trans (congrArg some (by kernel_rfl))⟩
  f19 := Tryz.func225.trans (congrArg some (by kernel_rfl))
  f20 := Tryz.func226.trans (congrArg some (by kernel_rfl))
  f21 := ⟨Tryz.f216.name, by decide, Tryz.func216.trans (congrArg some (by kernel_rfl))⟩
  f22 := ⟨Tryz.f217.name, by decide, Tryz.func217.trans (congrArg some (by kernel_rfl))⟩
  f23 := ⟨Tryz.f218.name, by decide, Tryz.func218.trans (congrArg some (by kernel_rfl))⟩
  f24 := ⟨Tryz.f219.name, by decide, Tryz.func219.trans (congrArg some (by kernel_rfl))⟩
  f25 := ⟨Tryz.f220.name, by decide, Tryz.func220.trans (congrArg some (by kernel_rfl))⟩
  f26 := ⟨Tryz.f221.name, by decide, Tryz.func221.trans (congrArg some (by kernel_rfl))⟩
  f27 := ⟨Tryz.f222.name, by decide, Tryz.func222.trans (congrArg some (by kernel_rfl))⟩
  f28 := ⟨Tryz.f223.name, by decide, Tryz.func223.trans (congrArg some (by kernel_rfl))⟩
  f29 := ⟨Tryz.f224.name, by decide, Tryz.func224.trans (congrArg some (by kernel_rfl))⟩
  f31 := Tryz.func229.trans (congrArg some (by kernel_rfl))
  f32 := Tryz.func230.trans (congrArg some (by kernel_rfl))
  f36 := ⟨Tryz.f228.name, by decide, Tryz.func228.trans (congrArg some (by kernel_rfl))⟩
  f37 := ⟨Tryz.f231.name, by decide, Tryz.func231.trans (congrArg some (by kernel_rfl))⟩
  f38 := ⟨Tryz.f232.name, by decide, Tryz.func232.trans (congrArg some (by kernel_rfl))⟩
  f39 := ⟨Tryz.f233.name, by decide, Tryz.func233.trans (congrArg some (by kernel_rfl))⟩
  f41 := ⟨Tryz.f234.name, by decide, Tryz.func234.trans (congrArg some (by kernel_rfl))⟩
  t0 := Tryz.underlying0
  a0 := Tryz.isAgg0
  z0 := Tryz.sizeOf0
  v0 := Tryz.zeroValue0
  t3 := Tryz.underlying3
  a3 := Tryz.isAgg3
  z3 := Tryz.sizeOf3
  v3 := Tryz.zeroValue3
  t4 := Tryz.underlying4
  a4 := Tryz.isAgg4
  z4 := Tryz.sizeOf4
  v4 := Tryz.zeroValue4
  t5 := Tryz.underlying5
  a5 := Tryz.isAgg5
  z5 := Tryz.sizeOf5
  v5 := Tryz.zeroValue5
  t9 := Tryz.underlying9
  a9 := Tryz.isAgg9
  z9 := Tryz.sizeOf9
  v9 := Tryz.zeroValue9
  t26 := Tryz.underlying43
  a26 := Tryz.isAgg43
  z26 := Tryz.sizeOf43
  v26 := Tryz.zeroValue43
  t27 := Tryz.underlying43
  a27 := Tryz.isAgg43
  z27 := Tryz.sizeOf43
  v27 := Tryz.zeroValue43
  t29 := Tryz.underlying9
  a29 := Tryz.isAgg9
  z29 := Tryz.sizeOf9
  v29 := Tryz.zeroValue9
  t32 := Tryz.underlying172
  a32 := Tryz.isAgg172
  z32 := Tryz.sizeOf172
  v32 := Tryz.zeroValue172
  t35 := Tryz.underlying342
  a35 := Tryz.isAgg342
  z35 := Tryz.sizeOf342
  v35 := Tryz.zeroValue342
  t36 := Tryz.underlying343
  a36 := Tryz.isAgg343
  z36 := Tryz.sizeOf343
  v36 := Tryz.zeroValue343
  t41 := Tryz.underlying303
  a41 := Tryz.isAgg303
  z41 := Tryz.sizeOf303
  v41 := Tryz.zeroValue303
  t44 := Tryz.underlying315
  a44 := Tryz.isAgg315
  z44 := Tryz.sizeOf315
  v44 := Tryz.zeroValue315
  t46 := Tryz.underlying314
  a46 := Tryz.isAgg314
  z46 := Tryz.sizeOf314
  v46 := Tryz.zeroValue314
  t53 := Tryz.underlying353
  a53 := Tryz.isAgg353
  z53 := Tryz.sizeOf353
  v53 := Tryz.zeroValue353
  t57 := Tryz.underlying357
  a57 := Tryz.isAgg357
  z57 := Tryz.sizeOf357
  v57 := Tryz.zeroValue357
  t63 := Tryz.underlying359
  a63 := Tryz.isAgg359
  z63 := Tryz.sizeOf359
  v63 := Tryz.zeroValue359
  t64 := Tryz.underlying360
  a64 := Tryz.isAgg360
  z64 := Tryz.sizeOf360
  v64 := Tryz.zeroValue360
}

theorem sortsL (m : Nat) : AnyZ.SortsIn Tryz.prog sortedL_ren Fence.wide m :=
  ⟨fun blk off cap ss W hH hblk hsz => callsIn_wide.2 (AnyM.slices_Sort_string sortL blk off cap ss W hH hblk hsz),
   fun p cap W => callsIn_wide.2 (AnyM.slices_Sort_string_none sortL p cap W)⟩
theorem mergeSort_self {l : List (List UInt8)} (h : l.Pairwise (fun a b => leB a b = true)) : l.mergeSort leB = l := by
  have tr : ∀ a b c : List UInt8, leB a b = true → leB b c = true → leB a c = true := fun a b c h1 h2 => by simp only [leB, decide_eq_true_eq] at *; exact List.le_trans h1 h2
  have tot : ∀ a b : List UInt8, (leB a b || leB b a) = true := fun a b => by simp only [leB, Bool.or_eq_true, decide_eq_true_eq]; exact List.le_total a b
  refine List.Perm.eq_of_pairwise (le := fun a b => leB a b = true) (fun a b _ _ h1 h2 => ?_) (List.pairwise_mergeSort tr tot l) h (List.mergeSort_perm l leB)
  simp only [leB, decide_eq_true_eq] at h1 h2
  exact List.le_antisymm h1 h2
set_option maxHeartbeats 1000000 in
theorem names_b {w : World} {S : Nat → Prop} {q mb : Nat} {fv : Value} {L : List Fl} {d : Dk} (h : DiskIs w S q mb fv L d) :
    Calls Tryz.prog 98 #[.pointer (some ⟨q, 0, none⟩)] w fun e w' => ∃ v, e = .returned v ∧
      w'.ownsRow w.heap.size 9 1 v L.length (L.map fun x => encStr x.f.name) ∧ (v = .slice none 0 0 ↔ L = []) ∧ Below w.heap.size w w' := by
  obtain ⟨D0, hown, hsz, hd⟩ := h.look
  have hnd : (L.map fun x => x.f.name).Nodup := h.nodup
  have hperm := hd.perm hown (by rw [List.map_map]; exact hnd)
  rw [List.map_map] at hperm
  have hsorted : (L.map fun x => x.f.name).Pairwise (fun a b => leB a b = true) := by
    have h1 := h.sorted
    rw [← h.files, List.map_map] at h1
    exact h1.imp (fun {a b} hab => by simpa [leB] using List.le_of_lt hab)
  have hlen : L.length ≤ 4096 := by
    have h1 := h.few
    rw [← h.files, List.length_map] at h1
    exact h1
  have HP := Lib.hid (And.intro hperm (And.intro hsorted hlen))
  have c0 : w.cell? ⟨q, 0, none⟩ = some (.map (some mb)) := cell_of h.head rfl
  have H := Lib.hid h
  refine (callsIn_wide (n := 6)).1 ?_
  have hbl := hown.lt
  have hseq : SeqGives Fence.wide 2 Tryz.prog 195 #[.pointer (some ⟨w.heap.size, 0, none⟩)] encStr (fun ss => ss.Perm (strKeys D0)) (Maps.size D0) (w.alloc (.cells #[.map (some mb)] 118)) :=
    AnyZ.keys_gives (ρ := keysL_ren) { keysL with } Fence.wide _ trivial rfl (by omega) w.heap.size mb L.length D0 _ (by simp) (by simp) (by
      obtain ⟨es, clock, hb, Ft, hs, hD⟩ := hown
      exact ⟨es, clock, (Below.heap_alloc _ _ mb hbl).trans hb, Ft, hs, hD⟩)
  have cK : ∀ mb W, CallsIn Fence.wide 5 Tryz.prog 159 #[.map mb] W fun e w' => e = .returned (.func (.func 195) #[] #[.pointer (some ⟨W.heap.size, 0, none⟩)]) ∧ w' = W.alloc (.cells #[.map mb] 118) := fun mb W => AnyZ.keys_in keysL Fence.wide 5 trivial rfl mb W
  have cS := AnyZ.sorted_in sortedL Fence.wide 5 trivial trivial trivial trivial rfl (by omega) (sortsL _) (enters_of Tryz.func183 (by kernel_rfl) rfl) 195 #[.pointer (some ⟨w.heap.size, 0, none⟩)] trivial (enters_of Tryz.func195 (by kernel_rfl) rfl) _ _ (by rw [hsz]; unfold maxLen; omega) (by rw [hsz]; omega) _ hseq
  change CallsIn _ _ Tryz.prog 131 _ _ _ at cS
  have cN : CallsIn Fence.wide 5 Tryz.prog 94 #[.pointer (some ⟨q, 0, none⟩)] w fun e w' => e = .returned (.bool false) ∧ w' = w := callsIn_wide.2 (none_b H.out)
  have hfK : Fence.wide.fn 159 := trivial
  have hfS : Fence.wide.fn 131 := trivial
  have hfN : Fence.wide.fn 94 := trivial
  clear hseq hd hown h hperm hsorted
  refine callsIn_of_wp Tryz.func98 rfl trivial ?_ rfl
  simp only [Tryz.ntmps98, List.size_toArray, List.length_cons, List.length_nil, Nat.reduceAdd, Nat.reduceSub, Array.replicate_succ, Array.replicate_zero, List.push_toArray, List.append_toArray, List.nil_append, List.cons_append]
  gi_wp2_with (first
    | (gi_at_call 94; refine cN.mono ?_; rintro e w' ⟨rfl, rfl⟩)
    | (gi_at_call 159; refine (cK _ _).mono ?_; rintro e w' ⟨rfl, rfl⟩)
    | (gi_at_call 131; refine cS.mono ?_; rintro e w' ⟨v, ss, rfl, hS, hrow, hnil, hb⟩))
  go_ret
  have hpp : ss.Perm (L.map fun x => x.f.name) := hS.trans HP.out.1.symm
  have hms : (ss.mergeSort fun x y => decide (x ≤ y)) = L.map fun x => x.f.name := (mergeSort_of_perm hpp).trans (mergeSort_self HP.out.2.1)
  have hl : ss.length = L.length := by rw [hpp.length_eq, List.length_map]
  rw [hms, hl, List.map_map] at hrow
  refine ⟨v, rfl, ownsRow_base_a hrow (by simp), ?_, ((Below.refl _ _).alloc (Nat.le_refl _) _).trans (hb.mono (by simp))⟩
  rw [hnil, ← List.length_eq_zero_iff, ← List.length_eq_zero_iff, hl]
end Go.Proofs.YtlgcoaeddeiegaaGreat
/- Disk: the picks of a crash: is one below zero; the next one. -/
namespace Go.Proofs.YtlgcoaeddeiegaaGreat
open Go Go.Maps Go.RowKit

def intCells (l : List Int) : List Value := l.map fun x => .int .i64 x
def AllGe (l : List Int) : Prop := ∀ x ∈ l, 0 ≤ x
theorem AllGe.snoc {ps : List Int} {k : Nat} (h : k < ps.length) (ha : AllGe (ps.take k)) (hc : 0 ≤ ps[k]) : AllGe (ps.take (k + 1)) := by
  intro x hx
  rw [List.take_succ_eq_append_getElem h, List.mem_append, List.mem_singleton] at hx
  rcases hx with hx | rfl
  · exact ha x hx
  · exact hc
set_option maxHeartbeats 400000 in
theorem neg_b (x : Int) (w : World) : Calls Tryz.prog 96 #[.int .i64 x] w fun e w' => e = .returned (.bool (decide (x < 0))) ∧ w' = w := by
  go_enter Tryz.func96, Tryz.ntmps96
  go_wp2_with fail
  go_ret
  exact ⟨rfl, rfl⟩
set_option maxRecDepth 100000 in
set_option maxHeartbeats 400000 in
theorem indexInt_b {w : World} {oa : Option Addr} {n c : Nat} {ps : List Int} (hn : ps.length = n) (h : readAt w 1 (.slice oa n c) n (intCells ps)) (hm : n ≤ 1000000000) :
    Calls Tryz.prog 158 #[.slice oa n c, .func (.func 96) #[] #[]] w fun e w' => ∃ i : Int, e = .returned (.int .i64 i) ∧ (AllGe ps → i = -1) ∧ (¬ AllGe ps → 0 ≤ i) ∧ w' = w := by
  have H := Lib.hid h
  clear h
  go_enter Tryz.func158, Tryz.ntmps158
  go_wp2_with fail
  go_loop [8] (fun i => ∃ k : Nat, k ≤ n ∧ i = .int .i64 k ∧ AllGe (ps.take k)) (fun i => n - (intOf i).toNat)
  case atStart => exact ⟨0, Nat.zero_le _, rfl, fun x hx => by simp at hx⟩
  case round =>
    obtain ⟨k, hk, rfl, hge⟩ := hrel
    by_cases hlt : k < n
    · obtain ⟨g, off, rfl⟩ := H.out.addr (by omega)
      obtain ⟨x, hx⟩ : ∃ x, ps[k]'(by omega) = x := ⟨_, rfl⟩
      have hcx : w.cell? ⟨g, off + k, none⟩ = some (.int .i64 x) := by
        have h1 := H.out.cells (g := g) (off := off) rfl k (.int .i64 x) (by simp [intCells, ← hx])
        simpa [Go.WideShapes.add_plain] using h1
      have HX : Hid (0 ≤ x → AllGe (ps.take (k + 1))) := Lib.hid fun h0 => AllGe.snoc (by omega) hge (by rw [hx]; exact h0)
      have HY : Hid (x < 0 → ¬ AllGe ps) := Lib.hid fun h0 ha => by
        have := ha x (by rw [← hx]; exact List.getElem_mem _)
        omega
      clear hge hx
      by_cases h0 : x < 0
      · go_wp2_with (go_at_call 96; refine (neg_b _ _).mono ?_; rintro e w' ⟨rfl, rfl⟩)
        go_ret
        exact ⟨_, rfl, fun ha => absurd ha (HY.out h0), fun _ => by omega, rfl⟩
      · go_wp2_with (go_at_call 96; refine (neg_b _ _).mono ?_; rintro e w' ⟨rfl, rfl⟩)
        exact ⟨⟨k + 1, by omega, by simp, HX.out (by omega)⟩, by simp [intOf]; omega⟩
    · obtain rfl : k = n := by omega
      have HA : Hid (AllGe ps) := Lib.hid (by rwa [List.take_of_length_le (by omega)] at hge)
      clear hge
      go_wp2_with fail
      go_ret
      exact ⟨_, rfl, fun _ => rfl, fun h => absurd HA.out h, rfl⟩
set_option maxHeartbeats 400000 in
theorem containsInt_b {w : World} {oa : Option Addr} {n c : Nat} {ps : List Int} (hn : ps.length = n) (h : readAt w 1 (.slice oa n c) n (intCells ps)) (hm : n ≤ 1000000000) :
    Calls Tryz.prog 95 #[.slice oa n c, .func (.func 96) #[] #[]] w fun e w' => ∃ b : Bool, e = .returned (.bool b) ∧ (b = false ↔ AllGe ps) ∧ w' = w := by
  go_enter Tryz.func95, Tryz.ntmps95
  go_wp2_with fail
  refine (indexInt_b hn h hm).mono ?_
  rintro e w' ⟨i, rfl, h1, h2, rfl⟩
  obtain ⟨b, hb⟩ : ∃ b, decide ((0 : Int) ≤ i) = b := ⟨_, rfl⟩
  have HB : Hid (b = false ↔ AllGe ps) := Lib.hid (by
    rw [← hb]
    constructor
    · intro h3
      refine Classical.byContradiction fun h4 => ?_
      have := h2 h4
      simp at h3
      omega
    · intro h3
      have := h1 h3
      simp
      omega)
  clear h h1 h2
  go_wp2_with fail
  go_ret
  exact ⟨_, rfl, HB.out, rfl⟩
def nextP (of : Nat) : List Int → Nat × List Int
  | [] => (0, [])
  | p :: r => (p.toNat % of, r)
def PicksAt (w : World) (b Z : Nat) (ps : List Int) : Prop :=
  ∃ oa c, w.heap[b]? = some (.cells #[.slice oa ps.length c] 38 (0, 0)) ∧ readAt w 1 (.slice oa ps.length c) ps.length (intCells ps) ∧ (0 < ps.length → ∀ k, (Value.slice oa ps.length c).ownBlock = some k → k ≠ b ∧ k < Z)
theorem PicksAt.kept {w w' : World} {b Z : Nat} {ps : List Int} (h : PicksAt w b Z ps) (hk : ∀ k, k = b ∨ k < Z → w'.heap[k]? = w.heap[k]?) : PicksAt w' b Z ps := by
  obtain ⟨oa, c, h1, h2, h3⟩ := h
  exact ⟨oa, c, (hk b (.inl rfl)).trans h1, h2.kept (fun k _ hk' h0 => hk k (.inr (h3 h0 k hk').2)), h3⟩
theorem run_tailI (g off n cap : Nat) (W : World) : (Instr.slice 38 (.slice (some ⟨g, off, none⟩) (n + 1) cap) (some (.int .i64 1)) none none).run Tryz.prog W = .ok (.slice (if cap = 1 then some ⟨g, off, none⟩ else (some (⟨g, off, none⟩ : Addr)).map (·.add (1 * 1))) n (cap - 1)) W := by
  have hs : (sizeOf 3).run Tryz.prog W = .ok 1 W := by kernel_rfl
  have he : Tryz.prog.elem 38 = 3 := by kernel_rfl
  rw [run_slice_l (P := Tryz.prog) (w := W) 38 (some ⟨g, off, none⟩) (n + 1) cap (by rw [he]; exact Tryz.underlying38) .i64 1 (by omega) (by omega), he, hs]
  simp [Result.andThen, sliced]
set_option maxRecDepth 100000 in
set_option maxHeartbeats 400000 in
theorem next_b {w : World} {b Z : Nat} {ps : List Int} (h : PicksAt w b Z ps) (hge : AllGe ps) (of : Nat) (h1 : 0 < of) (h2 : of ≤ 1000000000) (hp : ∀ x ∈ ps, x ≤ 9223372036854775807) :
    Calls Tryz.prog 97 #[.int .i64 of, .pointer (some ⟨b, 0, none⟩)] w fun e w' => e = .returned (.int .i64 (nextP of ps).1) ∧ PicksAt w' b Z (nextP of ps).2 ∧ Only (fun k => k = b) w w' := by
  obtain ⟨oa, c, hb, hrow, hne⟩ := h
  cases ps with
  | nil =>
    have hnl : (((0 : Nat) : Int) == 0) = true := rfl
    have HB := Lib.hid (And.intro hb (And.intro hrow hne))
    have c0 : w.cell? ⟨b, 0, none⟩ = some (.slice oa 0 c) := cell_of hb rfl
    clear hb hrow hne
    go_enter Tryz.func97, Tryz.ntmps97
    go_wp2_with fail
    go_ret
    exact ⟨rfl, ⟨oa, c, HB.out.1, HB.out.2.1, HB.out.2.2⟩, Only.refl _ _⟩
  | cons p rest =>
    obtain ⟨g, off, rfl⟩ := hrow.addr (by simp)
    have f0 : w.cell? ⟨g, off, none⟩ = some (.int .i64 p) := by
      have := hrow.cells (g := g) (off := off) rfl 0 (.int .i64 p) rfl
      simpa [Go.WideShapes.add_plain] using this
    have hcap : rest.length + 1 ≤ c := hrow.cap
    have hsub := hrow.tail
    obtain ⟨oa', hfv⟩ : ∃ oa' : Option Addr, oa' = if c = 1 then some ⟨g, off, none⟩ else (some (⟨g, off, none⟩ : Addr)).map (·.add (1 * 1)) := ⟨_, rfl⟩
    obtain ⟨c', hc'⟩ : ∃ c', c' = c - 1 := ⟨_, rfl⟩
    have hown : (Value.slice oa' rest.length c').ownBlock = some g := by rw [hfv]; exact sub_own _ _ _ _ _ _
    obtain ⟨n1, hn1⟩ : ∃ n1, n1 = rest.length + 1 := ⟨_, rfl⟩
    have hsl : ∀ W : World, (Instr.slice 38 (.slice (some ⟨g, off, none⟩) n1 c) (some (.int .i64 1)) none none).run Tryz.prog W = .ok (.slice oa' rest.length c') W := fun W => by rw [hfv, hn1, hc']; exact run_tailI g off rest.length c W
    have hn0 : ((n1 : Int) == 0) = false := by simp; omega
    have hn2 : (0 : Int) < (n1 : Int) := by omega
    have hn3 : (1 : Int) ≤ (n1 : Int) := by omega
    rw [List.length_cons, ← hn1] at hb
    have c0 : w.cell? ⟨b, 0, none⟩ = some (.slice (some ⟨g, off, none⟩) n1 c) := cell_of hb rfl
    have z0 : w.frozen? ⟨b, 0, none⟩ = false := free_of hb _
    have hgb : g ≠ b ∧ g < Z := hne (by simp) g rfl
    have HSUB : Hid (readAt w 1 (.slice oa' rest.length c') rest.length (intCells rest)) := Lib.hid (by
      rw [hfv, hc']
      exact hsub)
    have HB := Lib.hid (And.intro hb (And.intro hown hgb))
    have hp0 : 0 ≤ p := hge p (by simp)
    obtain ⟨m, hm⟩ : ∃ m : Nat, p = (m : Int) := ⟨p.toNat, by omega⟩
    have hmx := hp p (by simp)
    subst hm
    have HL : Hid (g < w.heap.size) := Lib.hid (hrow.lt (by simp) g rfl)
    clear hrow hsub hfv hc' hown hn1 hb hne hcap hge hp hp0 hgb
    have hof : (of : Int) ≠ 0 := by omega
    go_enter Tryz.func97, Tryz.ntmps97
    go_wp2_with fail
    go_ret
    obtain ⟨w1, hw1⟩ : ∃ w1 : World, w1 = w.setCell ⟨b, 0, none⟩ (.slice oa' rest.length c') := ⟨_, rfl⟩
    have ho : Only (fun k => k = b) w w1 := by rw [hw1]; exact only_setCell (fun k => k = b) w b 0 _ rfl
    have hb1 : w1.heap[b]? = some (.cells #[.slice oa' rest.length c'] 38 (0, 0)) := by rw [hw1]; exact heap_setCell_here _ HB.out.1
    rw [← hw1]
    refine ⟨?_, ⟨oa', c', hb1, HSUB.out.kept (fun k _ hk _ => ?_), fun _ k hk => ?_⟩, ho⟩
    · show Ending.returned (.int .i64 ((m : Int) % (of : Int))) = _
      simp [nextP]
    · rw [HB.out.2.1] at hk
      simp only [Option.some.injEq] at hk
      subst hk
      exact ho.block _ HL.out HB.out.2.2.1
    · have hk' : (Value.slice oa' rest.length c').ownBlock = some k := hk
      rw [HB.out.2.1] at hk'
      simp only [Option.some.injEq] at hk'
      rw [← hk']; exact HB.out.2.2
theorem next_v {w : World} {b Z : Nat} {ps : List Int} (h : PicksAt w b Z ps) (hge : AllGe ps) (of : Nat) (h1 : 0 < of) (h2 : of ≤ 1000000000) (hp : ∀ x ∈ ps, x ≤ 9223372036854775807) {v : Int} (hv : v = (of : Int)) :
    Calls Tryz.prog 97 #[.int .i64 v, .pointer (some ⟨b, 0, none⟩)] w fun e w' => e = .returned (.int .i64 (nextP of ps).1) ∧ PicksAt w' b Z (nextP of ps).2 ∧ Only (fun k => k = b) w w' := by
  subst hv
  exact next_b h hge of h1 h2 hp
end Go.Proofs.YtlgcoaeddeiegaaGreat
/- Disk: what a crash leaves. -/
namespace Go.Proofs.YtlgcoaeddeiegaaGreat
open Go Go.Maps Go.RowKit
open Go.Proofs (encStr)

def keepP (f : F0) (ps : List Int) : Bool × List Int := if f.there && f.named then (true, ps) else (decide ((nextP 2 ps).1 ≠ 0), (nextP 2 ps).2)
def moreP (f : F0) (ps : List Int) : Nat × List Int := if f.there && decide (f.lasts < f.bytes.length) then nextP (f.bytes.length - f.lasts + 1) ps else (0, ps)
def cutF (f : F0) (k : Nat) : F0 := ⟨f.name, f.bytes.take (f.lasts + k), f.lasts + k, true, true⟩
def crashStep (s : List F0 × List Int) (f : F0) : List F0 × List Int :=
  if (keepP f s.2).1 = false then (s.1, (keepP f s.2).2) else (s.1 ++ [cutF f (moreP f (keepP f s.2).2).1], (moreP f (keepP f s.2).2).2)
def crashTo (l : List F0) (ps : List Int) : List F0 × List Int := l.foldl crashStep ([], ps)
def Dk.crash (d : Dk) (ps : List Int) : Dk := ⟨(crashTo d.files ps).1, [], 0⟩
def PicksOk (ps : List Int) : Prop := ∀ x ∈ ps, 0 ≤ x ∧ x ≤ 9223372036854775807
theorem nextP_ok (of : Nat) {ps : List Int} (h : PicksOk ps) : PicksOk (nextP of ps).2 := by
  cases ps with
  | nil => exact h
  | cons p r => exact fun x hx => h x (List.mem_cons_of_mem _ hx)
theorem keepP_ok (f : F0) {ps : List Int} (h : PicksOk ps) : PicksOk (keepP f ps).2 := by
  unfold keepP
  split
  · exact h
  · exact nextP_ok _ h
theorem moreP_ok (f : F0) {ps : List Int} (h : PicksOk ps) : PicksOk (moreP f ps).2 := by
  unfold moreP
  split
  · exact nextP_ok _ h
  · exact h
theorem nextP_lt (of : Nat) (ps : List Int) (h : 0 < of) : (nextP of ps).1 < of := by
  cases ps with
  | nil => exact h
  | cons p r => exact Nat.mod_lt _ h
theorem moreP_le (f : F0) (ps : List Int) (h : f.lasts ≤ f.bytes.length) : f.lasts + (moreP f ps).1 ≤ f.bytes.length := by
  unfold moreP
  split
  · have := nextP_lt (f.bytes.length - f.lasts + 1) ps (by omega)
    omega
  · simpa using h
theorem crashTo_snoc (l : List F0) (f : F0) (ps : List Int) : crashTo (l ++ [f]) ps = crashStep (crashTo l ps) f := by simp [crashTo]
theorem crashStep_names (s : List F0 × List Int) (f : F0) : ∀ g ∈ (crashStep s f).1, g ∈ s.1 ∨ g.name = f.name := fun g hg => by
  unfold crashStep at hg
  split at hg
  · exact .inl hg
  · rcases List.mem_append.1 hg with h | h
    · exact .inl h
    · simp only [List.mem_singleton] at h
      exact .inr (by rw [h]; rfl)
theorem crashTo_names (ps : List Int) : ∀ (l : List F0) (s : List F0 × List Int) (g : F0), g ∈ (l.foldl crashStep s).1 → g ∈ s.1 ∨ ∃ f ∈ l, g.name = f.name
  | [], s, g, hg => .inl hg
  | f :: r, s, g, hg => by
    rcases crashTo_names ps r (crashStep s f) g hg with h | ⟨f', hf', he⟩
    · rcases crashStep_names s f g h with h | h
      · exact .inl h
      · exact .inr ⟨f, by simp, h⟩
    · exact .inr ⟨f', by simp [hf'], he⟩
theorem DiskIs.lookup1_some {w : World} {S : Nat → Prop} {q mb : Nat} {fv : Value} {L : List Fl} {d : Dk} (h : DiskIs w S q mb fv L d) {x : Fl} (hx : x ∈ L) {nm : ByteArray} (hs : nm.size ≤ maxLen) (hn : x.f.name = nm.data.toList) :
    (Instr.lookup 118 (.map (some mb)) (.string nm) false).run Tryz.prog w = .ok (.pointer (some ⟨x.blk, 0, none⟩)) w := by
  obtain ⟨D, ho, hsz, hd⟩ := h.look
  have hz : (zeroValue 175).run Tryz.prog w = .ok (.pointer none) w := by kernel_rfl
  obtain ⟨v, ps, hrun, hv⟩ := ho.lookup (t := 118) (string_keyed Tryz.underlying9) Tryz.underlying118 hz ptrElem_nil (WideMaps.keyOf_string_mk (P := Tryz.prog) Tryz.underlying9 hs)
  have hm : (x.f.name, x.blk) ∈ L.map fun x => (x.f.name, x.blk) := List.mem_map_of_mem (f := fun x => (x.f.name, x.blk)) hx
  have hg := hd.get _ hm .nil
  rw [← hn] at hv
  rw [hg] at hv
  obtain rfl := ptrElem_inv hv
  exact hrun
structure CrashPre (w3 wr : World) (S : Nat → Prop) (q mb : Nat) (fv : Value) (L : List Fl) (d : Dk) (pb Z : Nat) (fl : List F0) : Prop where
  old : DiskIs wr S q mb fv L d
  only : Only (fun k => k = pb ∨ k = pb + 1) w3 wr
  new : ∃ Lo, DiskIs wr (fun k => (k = pb + 2 ∨ k = pb + 1 ∨ w3.heap.size ≤ k) ∧ k < wr.heap.size) (pb + 2) (pb + 1) (.slice none 0 0) Lo ⟨fl, [], 0⟩
  low : ∀ k, S k → k < Z
  z : Z < pb
  size : pb + 3 ≤ w3.heap.size
theorem CrashPre.pick {w3 wr wx : World} {S : Nat → Prop} {q mb : Nat} {fv : Value} {L : List Fl} {d : Dk} {pb Z : Nat} {fl : List F0} (h : CrashPre w3 wr S q mb fv L d pb Z fl) (ho : Only (fun k => k = pb) wr wx) : CrashPre w3 wx S q mb fv L d pb Z fl where
  old := h.old.only ho (fun k hk he => by
    have h1 := h.low k hk
    have h2 := h.z
    omega)
  only := h.only.trans ho (fun i _ hi => .inl hi)
  new := by
    obtain ⟨Lo, hL⟩ := h.new
    have h1 := h.size
    exact ⟨Lo, (hL.only ho (fun k hk he => by have := hk.1; omega)).wider (fun k hk => ⟨hk.1, Nat.lt_of_lt_of_le hk.2 ho.size⟩) (fun k hk => hk.2)⟩
  low := h.low
  z := h.z
  size := h.size
theorem CrashPre.drew {w3 wr : World} {S : Nat → Prop} {q mb : Nat} {fv : Value} {L : List Fl} {d : Dk} {pb Z : Nat} {fl : List F0} (h : CrashPre w3 wr S q mb fv L d pb Z fl) : CrashPre w3 wr.drew S q mb fv L d pb Z fl := h.pick (only_drew (Only.refl _ _))
theorem CrashPre.add {w3 wr w5 w6 : World} {S : Nat → Prop} {q mb : Nat} {fv : Value} {L : List Fl} {d : Dk} {pb Z : Nat} {fl : List F0} (h : CrashPre w3 wr S q mb fv L d pb Z fl) {g : F0} {v : Value} {D : DataW Unit} {n' : Nat} {Lo : List Fl}
    (hLo : DiskIs wr (fun k => (k = pb + 2 ∨ k = pb + 1 ∨ w3.heap.size ≤ k) ∧ k < wr.heap.size) (pb + 2) (pb + 1) (.slice none 0 0) Lo ⟨fl, [], 0⟩) (hd : Dic D (Lo.map fun x => (x.f.name, x.blk)))
    (hnb : NewBytes wr w5 v g.bytes) (hg : (w5.alloc (.cells #[v, .int .i64 g.lasts, .bool g.there, .bool g.named] 179)).grownBy w6 (some (pb + 1)))
    (hm : w6.ownsMap Tryz.prog 9 ptrElem (pb + 1) n' (D.put (.string g.name) (.lit (.int .i64 w5.heap.size)))) (hl : g.lasts ≤ g.bytes.length) (hsz : g.bytes.length ≤ 16777216) (hnm : nameOk g.name = true) (hlt : ∀ f ∈ fl, f.name < g.name) (hfew : fl.length < 4096) :
    CrashPre w3 w6 S q mb fv L d pb Z (fl ++ [g]) := by
  obtain ⟨hb, hown, hbl⟩ := hnb
  obtain ⟨w5a, hw5a⟩ : ∃ w5a : World, w5a = w5.alloc (.cells #[v, .int .i64 g.lasts, .bool g.there, .bool g.named] 179) := ⟨_, rfl⟩
  rw [← hw5a] at hg
  have hc5 : w5a.heap[w5.heap.size]? = some (.cells #[v, .int .i64 g.lasts, .bool g.there, .bool g.named] 179 (0, 0)) := by rw [hw5a]; exact alloc_cells _ _ _
  have hs5 : w5a.heap.size = w5.heap.size + 1 := by rw [hw5a]; simp
  have ho1 : Only (fun k => k = pb + 1) wr w5 := Only.of_below hbl (Nat.le_refl _) _
  have ho2 : Only (fun k => k = pb + 1) wr w5a := ho1.trans (by rw [hw5a]; exact only_alloc (fun k => k = pb + 1) _ _) (fun _ _ h => h)
  have ho : Only (fun k => k = pb + 1) wr w6 := ho2.trans (Only.of_grown (S := fun k => k = pb + 1) hg (fun k hk => by simp at hk; exact hk.symm)) (fun _ _ h => h)
  have hmb : pb + 1 < wr.heap.size := hLo.low (pb + 1) (hLo.foot (pb + 1) (by simp [diskBlocks]))
  have hsz1 := hbl.size
  have hsz2 := hg.size
  have hfl : Lo.map (·.f) = fl := hLo.files
  have hkeep : ∀ k, k < w5a.heap.size → k ≠ pb + 1 → w6.heap[k]? = w5a.heap[k]? := fun k h1 h2 => hg.block k h1 (by simp; omega)
  have hrow : rowAt w6 5 1 v g.bytes.length (byteCells g.bytes) := by
    have h1 : rowAt w5a 5 1 v g.bytes.length (byteCells g.bytes) := hb.kept (fun k hk => by rw [hw5a]; exact Below.heap_alloc _ _ k (hb.lt k hk))
    exact h1.kept (fun k hk => hkeep k (h1.lt k hk) (by have := hown k hk; omega))
  have h6 := DiskIs.file_add (A := Lo) (B := []) (x' := ⟨g, w5.heap.size, v⟩) (fs := fl ++ [g]) (by simpa using hLo) ho
    ⟨(hkeep w5.heap.size (by omega) (by omega)).trans hc5, hrow, hl, hsz⟩ hm
    (hd.put g.name w5.heap.size (fun f => by
      simp only [List.map_append, List.map_cons, List.map_nil, List.mem_append, List.mem_cons, List.not_mem_nil, or_false]
      exact or_comm) (fun f hf => by
      obtain ⟨y, hy, rfl⟩ := List.mem_map.1 hf
      have h1 := hlt y.f (by rw [← hfl]; exact List.mem_map_of_mem hy)
      exact fun he => by
        have he' : y.f.name = g.name := he
        rw [he'] at h1
        exact List.lt_irrefl _ h1))
    (fun k hk => by
      simp only [Fl.blocks, List.mem_cons, Option.mem_toList] at hk
      rcases hk with rfl | hk
      · show wr.heap.size ≤ w5.heap.size ∧ w5.heap.size < w6.heap.size
        exact ⟨hsz1, by omega⟩
      · have h1 := hown k hk
        have h2 := hb.lt k hk
        exact ⟨h1, by omega⟩)
    (by
      cases hv : v.ownBlock with
      | none => simp [Fl.blocks, hv]
      | some k =>
        have h2 := hb.lt k hv
        simp [Fl.blocks, hv]
        omega)
    (by simp [hfl]) (by
      rw [List.map_append, List.pairwise_append]
      refine ⟨hLo.sorted, by simp, fun a ha b hb' => ?_⟩
      obtain ⟨y, hy, rfl⟩ := List.mem_map.1 ha
      simp only [List.map_cons, List.map_nil, List.mem_singleton] at hb'
      rw [hb']
      exact hlt y hy) hnm hfew
  have h1 := h.size
  exact {
    old := h.old.only ho (fun k hk he => by
      have h1 := h.low k hk
      have h2 := h.z
      omega)
    only := h.only.trans ho (fun i _ hi => .inr hi)
    new := ⟨_, h6.wider (fun k hk => by
      have h3 := h.only.size
      rcases hk with hk | hk
      · exact ⟨hk.1, Nat.lt_of_lt_of_le hk.2 ho.size⟩
      · exact ⟨by omega, hk.2⟩) (fun k hk => hk.2)⟩
    low := h.low
    z := h.z
    size := h.size }
theorem take_files {L : List Fl} {d : Dk} {j : Nat} (hf : L.map (·.f) = d.files) (hj : j < L.length) : d.files.take (j + 1) = d.files.take j ++ [L[j].f] := by
  rw [← hf, List.take_succ_eq_append_getElem (by simpa using hj)]
  simp
theorem keep_eq (P : List Int) : ((((nextP 2 P).1 : Nat) : Int) == 0) = !(decide ((nextP 2 P).1 ≠ 0)) := by
  by_cases h : (nextP 2 P).1 = 0 <;> simp [h]
theorem add_only {wr w5 w6 : World} {b : Nat} {v : Value} {l : List UInt8} {o : Obj} (hnb : NewBytes wr w5 v l) (hg : (w5.alloc o).grownBy w6 (some b)) : Only (fun k => k = b) wr w6 :=
  ((Only.of_below hnb.2.2 (Nat.le_refl _) _).trans (only_alloc (fun k => k = b) w5 o) (fun _ _ h => h)).trans (Only.of_grown (S := fun k => k = b) hg (fun k hk => by simp at hk; exact hk.symm)) (fun _ _ h => h)
theorem crashTo_length (ps : List Int) : ∀ (l : List F0) (s : List F0 × List Int), (l.foldl crashStep s).1.length ≤ s.1.length + l.length
  | [], s => by simp
  | f :: r, s => by
    have h1 := crashTo_length ps r (crashStep s f)
    have h2 : (crashStep s f).1.length ≤ s.1.length + 1 := by
      unfold crashStep
      split
      · simp
      · simp
    simp only [List.foldl_cons, List.length_cons]
    omega
theorem crash_lt {d : Dk} {j : Nat} {f : F0} {ps : List Int} (hs : (d.files.map (·.name)).Pairwise (· < ·)) (ht : d.files.take (j + 1) = d.files.take j ++ [f]) : ∀ g ∈ (crashTo (d.files.take j) ps).1, g.name < f.name := fun g hg => by
  rcases crashTo_names ps _ _ g hg with h | ⟨f', hf', he⟩
  · cases h
  · have h1 : ((d.files.take (j + 1)).map (·.name)).Pairwise (· < ·) := hs.sublist ((List.take_sublist _ _).map _)
    rw [ht, List.map_append, List.pairwise_append] at h1
    rw [he]
    exact h1.2.2 _ (List.mem_map_of_mem hf') _ (by simp)
theorem run_take (oa : Option Addr) (N c E : Nat) (h2 : E ≤ c) (h0 : oa.map (fun x => x.add 0) = oa) (W : World) : (Instr.slice 39 (.slice oa N c) none (some (.int .i64 (E : Int))) none).run Tryz.prog W = .ok (.slice oa E c) W := by
  have hs : (sizeOf 5).run Tryz.prog W = .ok 1 W := by kernel_rfl
  have he : Tryz.prog.elem 39 = 5 := by kernel_rfl
  rw [run_slice_h (P := Tryz.prog) (w := W) 39 oa N c (by rw [he]; exact Tryz.underlying39) .i64 E (by omega) (by omega), he, hs]
  simp [Result.andThen, sliced, h0]
structure CrashInv (w3 wr : World) (S : Nat → Prop) (q mb : Nat) (fv : Value) (L : List Fl) (d : Dk) (pb Z j : Nat) (ps : List Int) : Prop where
  pre : CrashPre w3 wr S q mb fv L d pb Z (crashTo (d.files.take j) ps).1
  picks : PicksAt wr pb Z (crashTo (d.files.take j) ps).2
  ok : PicksOk (crashTo (d.files.take j) ps).2
def CrashIs (w : World) (d : Dk) (ps : List Int) (e : Ending) (w' : World) : Prop :=
  (¬ AllGe ps ∧ e = .returned (.tuple #[.pointer none, .int .i64 2]) ∧ Below w.heap.size w w') ∨
  (AllGe ps ∧ ∃ q, e = .returned (.tuple #[.pointer (some ⟨q, 0, none⟩), .int .i64 0]) ∧ DiskAt w' (fun k => w.heap.size ≤ k ∧ k < w'.heap.size) q (d.crash ps) ∧ Below w.heap.size w w')
end Go.Proofs.YtlgcoaeddeiegaaGreat
