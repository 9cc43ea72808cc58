/- The texts Pzf, Eq, Er, Es, Et, Eu, Ev, Eb, Ec, Ed in one. -/
import Derived.Test.YtlgcoaeddeiegaaGreatV13
import Derived.Test.YtlgcoaeddeiegaaGreatV9
import Derived.Shelf.SlIter.Nil
import Derived.Shelf.SortM.Plain
import Derived.Shelf.SortM.SortNone
import Derived.Maps.OwnOps
/- partlog: what stands behind an Append; State; a log's part of a disk that has none of it. -/
namespace Go.Proofs.YtlgcoaeddeiegaaGreat
open Go Go.RowKit
attribute [local go_sem] Oper.semAt_some

theorem hexd_okB : ∀ d : Nat, d < 16 → okByte (hexd d) = true := by decide
theorem hex_okB : ∀ n b, (hex n b).all okByte = true
  | 0, _ => rfl
  | n + 1, b => by
    rw [hex, List.all_append, hex_okB n]
    simp [hexd_okB (b % 16) (by omega)]
theorem sname_nameOk {log : ByteArray} (hlog : loggedB log.data.toList = true) (b : Nat) : nameOk (sname log b) = true := by
  have hl := loggedB_len _ hlog
  have h1 : log.data.toList.all okByte = true := by
    unfold loggedB lowB at hlog
    simp only [Bool.and_eq_true] at hlog
    rw [List.all_eq_true] at *
    intro x hx
    have := hlog.1.1 x hx
    unfold okByte
    simp only [Bool.and_eq_true, decide_eq_true_eq] at this
    have h2 : decide (97 ≤ x.toNat) = true := decide_eq_true (by have := this.1; exact UInt8.le_iff_toNat_le.1 this)
    have h3 : decide (x.toNat ≤ 122) = true := decide_eq_true (by have := this.2; exact UInt8.le_iff_toNat_le.1 this)
    rw [h2, h3]
    rfl
  have h2 : (sname log b).all okByte = true := by
    unfold sname
    rw [List.all_append, List.all_cons, h1, hex_okB]
    rfl
  have h3 : (sname log b).length = log.data.toList.length + 15 := by
    unfold sname
    rw [List.length_append, List.length_cons, hex_length]
  unfold nameOk
  rw [h2, decide_eq_true (show 1 ≤ (sname log b).length by omega), decide_eq_true (show (sname log b).length ≤ 32 by omega)]
  rfl
theorem dies_dead (g : Lg) {e : Int} (h : e ≠ 0) : (g.dies e).dead = true := by unfold Lg.dies; rw [if_neg h]
theorem dies_segs (g : Lg) (e : Int) : (g.dies e).segs = g.segs := by unfold Lg.dies; split <;> rfl
theorem LgFitQ.dies {log : ByteArray} {g : Lg} {d : Dk} (h : LgFitQ log g d) (e : Int) : LgFitQ log (g.dies e) d := fun s hs => h s (by rwa [dies_segs] at hs)
/-- what stands behind an Append -/
theorem appendT_law {log : ByteArray} {roll : Nat} {g : Lg} {d : Dk} {l : List Rc} (hlog : loggedB log.data.toList = true) (hroll : 1 ≤ roll) (h : LgOk g) (hq : LgFitQ log g d) (hf : g.dead = false → LgFit log g d) (hs : (d.files.map (·.name)).Pairwise (· < ·)) :
    LgOk (g.appendT log roll d l).2.1 ∧ LgFitQ log (g.appendT log roll d l).2.1 (g.appendT log roll d l).2.2 ∧ ((g.appendT log roll d l).2.1.dead = false → LgFit log (g.appendT log roll d l).2.1 (g.appendT log roll d l).2.2) := by
  unfold Lg.appendT
  split
  · exact ⟨h, hq, hf⟩
  · rename_i h0
    split
    · exact ⟨h, hq, hf⟩
    · rename_i h1
      split
      · exact ⟨h, hq, hf⟩
      · rename_i h2
        have h1 : (fitsT l).2 = 0 := Classical.byContradiction h1
        have hd : g.dead = false := by simpa using h0
        have hl : 1 ≤ l.length := by
          cases hll : l with
          | nil => rw [hll] at h1; cases h1
          | cons => simp
        have key : ∀ (g1 : Lg) (d1 : Dk), LgOk g1 → LgFit log g1 d1 → g1.fin = g.fin → LgOk ((g1.addT log d1 l).2.1.dies (g1.addT log d1 l).1) ∧ LgFitQ log ((g1.addT log d1 l).2.1.dies (g1.addT log d1 l).1) (g1.addT log d1 l).2.2 ∧ (((g1.addT log d1 l).2.1.dies (g1.addT log d1 l).1).dead = false → LgFit log ((g1.addT log d1 l).2.1.dies (g1.addT log d1 l).1) (g1.addT log d1 l).2.2) := fun g1 d1 k1 k2 k3 => by
          have hgood := (fits_good (base := (g1.fin : Int)) h1 (by omega) (by rw [k3]; omega)).1
          obtain ⟨a1, a2, a3⟩ := add_law hlog k1 k2 hgood (sname_nameOk hlog _)
          refine ⟨a1.died _, a3.dies _, fun hdd => ?_⟩
          by_cases he : (g1.addT log d1 l).1 = 0
          · unfold Lg.dies
            rw [if_pos he]
            exact a2 he
          · rw [dies_dead _ he] at hdd
            cases hdd
        dsimp only
        unfold Lg.pushT
        split
        · rename_i h3
          have hne : g.lbs ≠ [] := fun e => by
            rw [e] at h3
            have : roll ≤ 0 := h3
            omega
          obtain ⟨a1, a2, a3⟩ := roll_law h (hf hd) (create_sorted _ (by rw [sync_names]; exact hs)) hne (by omega)
          split
          · rename_i h4
            refine ⟨a1.died _, a2.toQ.dies _, fun hdd => ?_⟩
            rw [dies_dead _ h4] at hdd
            cases hdd
          · exact key _ _ a1 a2 a3
        · exact key _ _ h (hf hd) rfl
theorem syncT_law {log : ByteArray} {g : Lg} {d : Dk} (h : LgOk g) (hq : LgFitQ log g d) (hf : g.dead = false → LgFit log g d) :
    LgOk (g.syncT log d).2.1 ∧ LgFitQ log (g.syncT log d).2.1 (g.syncT log d).2.2 ∧ ((g.syncT log d).2.1.dead = false → LgFit log (g.syncT log d).2.1 (g.syncT log d).2.2) := by
  have k := sync_keeps d (sname log g.lb)
  unfold Lg.syncT
  split
  · exact ⟨h, hq, hf⟩
  · rename_i h0
    have hd : g.dead = false := by simpa using h0
    split
    · exact ⟨h.died 1, k.fitQ hq, fun h => by cases h⟩
    · exact ⟨h.standsFin, k.fitQ hq, fun _ => k.fit (hf hd)⟩
/-- a state, as a value -/
def stateV (g : Lg) : Value := .agg #[.int .i64 (g.begin : Int), .int .i64 (g.fin : Int), .int .i64 (g.stands : Int), .int .i64 (g.segs.length : Int), .bool g.dead]
set_option maxRecDepth 100000 in
set_option maxHeartbeats 2000000 in
theorem logState_b {w : World} {T : Nat → Prop} {lp q : Nat} {log : ByteArray} {roll step : Nat} {g : Lg} {G : List Sg} {a : Sg} {pv : Value} (hm : LogM w T lp q log roll step g G a pv) :
    Calls Tryz.prog 25 #[.pointer (some ⟨lp, 0, none⟩)] w fun e w' => e = .returned (stateV g) ∧ Below w.heap.size w w' := by
  obtain ⟨w1, hw1⟩ : ∃ W : World, W = w.alloc (.cells #[.int .i64 0, .int .i64 0, .int .i64 0, .int .i64 0, .bool false] 60) := ⟨_, rfl⟩
  obtain ⟨b, hb⟩ : ∃ b, b = w.heap.size := ⟨_, rfl⟩
  have gb : w1.heap[b]? = some (.cells #[.int .i64 0, .int .i64 0, .int .i64 0, .int .i64 0, .bool false] 60 (0, 0)) := by rw [hw1, hb]; exact alloc_cells _ _ _
  have hb1 : Below w.heap.size w w1 := by rw [hw1]; exact (Below.refl _ _).alloc (Nat.le_refl _) _
  have hm1 := hm.later hb1
  have HN := Lib.hid (noneLog_b hm1)
  have hsg : (g.segs.length : Int) = ((G.length + 1 : Nat) : Int) := by rw [hm.segs]; simp
  unfold stateV
  rw [hsg]
  obtain ⟨n, hn⟩ : ∃ n : Int, n = ((G.length + 1 : Nat) : Int) := ⟨_, rfl⟩
  have hh := hm1.head
  unfold logHead at hh
  rw [← hn] at hh ⊢
  have k0 : w1.cell? ⟨lp, 0, none⟩ = some (.int .i64 (g.begin : Int)) := cell_of hh rfl
  have k1 : w1.cell? ⟨lp, 1, none⟩ = some (.int .i64 (g.fin : Int)) := cell_of hh rfl
  have k2 : w1.cell? ⟨lp, 2, none⟩ = some (.int .i64 (g.stands : Int)) := cell_of hh rfl
  have k3 : w1.cell? ⟨lp, 3, none⟩ = some (.int .i64 n) := cell_of hh rfl
  have k4 : w1.cell? ⟨lp, 4, none⟩ = some (.bool g.dead) := cell_of hh rfl
  have b0 : w1.cell? ⟨b, 0, none⟩ = some (.int .i64 0) := cell_of gb rfl
  have b1 : w1.cell? ⟨b, 1, none⟩ = some (.int .i64 0) := cell_of gb rfl
  have b2 : w1.cell? ⟨b, 2, none⟩ = some (.int .i64 0) := cell_of gb rfl
  have b3 : w1.cell? ⟨b, 3, none⟩ = some (.int .i64 0) := cell_of gb rfl
  have b4 : w1.cell? ⟨b, 4, none⟩ = some (.bool false) := cell_of gb rfl
  have z0 : w1.frozen? ⟨b, 0, none⟩ = false := free_of gb _
  have z1 : w1.frozen? ⟨b, 1, none⟩ = false := free_of gb _
  have z2 : w1.frozen? ⟨b, 2, none⟩ = false := free_of gb _
  have z3 : w1.frozen? ⟨b, 3, none⟩ = false := free_of gb _
  have z4 : w1.frozen? ⟨b, 4, none⟩ = false := free_of gb _
  have H := Lib.hid (And.intro gb (And.intro hb1 hb))
  obtain ⟨x0, hx0⟩ : ∃ x, x = (g.begin : Int) := ⟨_, rfl⟩
  obtain ⟨x1, hx1⟩ : ∃ x, x = (g.fin : Int) := ⟨_, rfl⟩
  obtain ⟨x2, hx2⟩ : ∃ x, x = (g.stands : Int) := ⟨_, rfl⟩
  obtain ⟨x4, hx4⟩ : ∃ x, x = g.dead := ⟨_, rfl⟩
  rw [← hx0] at k0 ⊢
  rw [← hx1] at k1 ⊢
  rw [← hx2] at k2 ⊢
  rw [← hx4] at k4 ⊢
  clear gb hb1 hm1 hm hsg hn hh hx0 hx1 hx2 hx4
  go_enter Tryz.func25, Tryz.ntmps25
  go_upto_region 1 with fail
  rw [← hw1, ← hb]
  clear hw1 hb
  go_wp2_with fail
  refine HN.out.mono ?_
  rintro e w2 ⟨rfl, hw2⟩
  obtain rfl := hw2.symm
  clear hw2
  go_wp2_with fail
  obtain ⟨w3, hw3⟩ : ∃ W : World, W = ((((w1.setCell ⟨b, 0, none⟩ (.int .i64 x0)).setCell ⟨b, 1, none⟩ (.int .i64 x1)).setCell ⟨b, 2, none⟩ (.int .i64 x2)).setCell ⟨b, 3, none⟩ (.int .i64 n)).setCell ⟨b, 4, none⟩ (.bool x4) := ⟨_, rfl⟩
  rw [← hw3]
  have g3 : w3.heap[b]? = some (.cells #[.int .i64 x0, .int .i64 x1, .int .i64 x2, .int .i64 n, .bool x4] 60 (0, 0)) := by
    rw [hw3]
    exact heap_setCell_here _ (heap_setCell_here _ (heap_setCell_here _ (heap_setCell_here _ (heap_setCell_here _ H.out.1))))
  have r0 := cell_of (i := 0) g3 rfl
  have r1 := cell_of (i := 1) g3 rfl
  have r2 := cell_of (i := 2) g3 rfl
  have r3 := cell_of (i := 3) g3 rfl
  have r4 := cell_of (i := 4) g3 rfl
  have hl : w.heap.size ≤ b := Nat.le_of_eq H.out.2.2.symm
  refine bodyPost_ret (v := .agg #[.int .i64 x0, .int .i64 x1, .int .i64 x2, .int .i64 n, .bool x4]) (by simp [results, Tryz.results25, go_sem, r0, r1, r2, r3, r4]) rfl ⟨rfl, ?_⟩
  rw [hw3]
  exact ((((H.out.2.1.setCell (p := ⟨b, 0, none⟩) hl _).setCell (p := ⟨b, 1, none⟩) hl _).setCell (p := ⟨b, 2, none⟩) hl _).setCell (p := ⟨b, 3, none⟩) hl _).setCell (p := ⟨b, 4, none⟩) hl _
end Go.Proofs.YtlgcoaeddeiegaaGreat
/- Disk: Remove, its walk. -/
namespace Go.Proofs.YtlgcoaeddeiegaaGreat
open Go Go.Maps Go.RowKit

/-- a file with a lasting name is taken away -/
theorem set_gone {w w2 : World} {S : Nat → Prop} {q mb : Nat} {fv' : Value} {A B : List Fl} {x : Fl} {d1 : Dk} (ho : Only (fun k => k = q) w w2) (h2 : DiskIs w2 S q mb fv' (A ++ x :: B) d1) {oa : Option Addr} {c l : Nat} (hbv : x.bv = .slice oa x.f.bytes.length c) (hl : x.f.lasts = l)
    {s : List UInt8} {t : F0 → F0} (hs : x.f.name = s) (ht : t x.f = { x.f with bytes := x.f.bytes.take x.f.lasts, there := false }) (n : Int) :
    OpIs w S q (n, d1.turn s t) (.returned (.int .i64 n)) ((w2.setCell ⟨x.blk, 2, none⟩ (.bool false)).setCell ⟨x.blk, 0, none⟩ (.slice oa l l)).drew := by
  subst hl
  have hx := h2.each x (by simp)
  have hset : Only (fun k => k = x.blk) w2 ((w2.setCell ⟨x.blk, 2, none⟩ (.bool false)).setCell ⟨x.blk, 0, none⟩ (.slice oa x.f.lasts x.f.lasts)).drew :=
    only_drew ((only_setCell (fun k => k = x.blk) w2 x.blk 2 _ rfl).trans (only_setCell (fun k => k = x.blk) _ x.blk 0 _ rfl) (fun _ _ h => h))
  have hown : (Value.slice oa x.f.lasts x.f.lasts).ownBlock = x.bv.ownBlock := by
    rw [hbv]
    cases oa with
    | none => rfl
    | some a => rfl
  have hrow := hx.row
  rw [hbv] at hrow
  have hr2 := hrow.cap x.f.lasts hx.lasts
  rw [Nat.mul_one, byteCells_take] at hr2
  have hlen : (x.f.bytes.take x.f.lasts).length = x.f.lasts := by have := hx.lasts; rw [List.length_take]; omega
  refine file_done (x' := ⟨{ x.f with bytes := x.f.bytes.take x.f.lasts, there := false }, x.blk, .slice oa x.f.lasts x.f.lasts⟩) ho h2 (hset.mono (fun i _ hi => by rw [hi]; simp [Fl.blocks])) rfl rfl ⟨?_, ?_, ?_, ?_⟩ (fun i hi => .inl (by rw [← hown]; exact hi)) hs ht.symm n
  · exact heap_setCell_here (w := w2.setCell ⟨x.blk, 2, none⟩ (.bool false)) _ (heap_setCell_here (w := w2) _ hx.cells)
  · show rowAt _ _ 1 _ (x.f.bytes.take x.f.lasts).length (byteCells (x.f.bytes.take x.f.lasts))
    rw [hlen]
    exact hr2.kept (fun i hi => hset.block i (hr2.lt i hi) (FlAt.own_ne h2 i (by rw [← hown]; exact hi)))
  · show x.f.lasts ≤ (x.f.bytes.take x.f.lasts).length
    omega
  · show (x.f.bytes.take x.f.lasts).length ≤ 16777216
    have := hx.size
    have := hx.lasts
    omega
set_option maxRecDepth 100000 in
set_option maxHeartbeats 1000000 in
theorem remove_b {w : World} {S : Nat → Prop} {q : Nat} {d : Dk} (h : DiskAt w S q d) (nm : ByteArray) (hs : nm.size ≤ maxLen) :
    Calls Tryz.prog 93 #[.pointer (some ⟨q, 0, none⟩), .string nm] w fun e w' => OpIs w S q (d.remove nm.data.toList) e w' := by
  obtain ⟨mb, fv, L, h⟩ := h
  go_enter Tryz.func93, Tryz.ntmps93
  go_wp2_with fail
  refine (find_b h nm hs).mono ?_
  rintro e w' ⟨hF, rfl⟩
  rcases hF with ⟨hn, rfl⟩ | ⟨hn, hf, rfl⟩ | ⟨hn, A, x, B, rfl, hxn, hxt, hf, rfl⟩
  · have HO : Hid (OpIs w' S q (d.remove nm.data.toList) (.returned (.int .i64 2)) w') := Lib.hid (by
      rw [show d.remove nm.data.toList = (2, d) by simp [Dk.remove, hn]]
      exact OpIs.same h 2)
    clear h hn
    go_wp2_with fail
    go_ret
    exact HO.out
  · have HO : Hid (OpIs w' S q (d.remove nm.data.toList) (.returned (.int .i64 171)) w') := Lib.hid (by
      rw [show d.remove nm.data.toList = (171, d) by simp [Dk.remove, hn, hf]]
      exact OpIs.same h 171)
    clear h hn hf
    go_wp2_with fail
    go_ret
    exact HO.out
  · have H := Lib.hid h
    have HN := Lib.hid (And.intro hn hf)
    clear h hn hf
    go_wp2_with fail
    refine (step_b H.out).mono ?_
    rintro e w1 ⟨kd, kp, fv', rfl, hkp, h1, ho1⟩
    obtain ⟨er, her⟩ : ∃ er, d.fate.1 = er := ⟨_, rfl⟩
    rw [her]
    have H1 := Lib.hid h1
    have HO1 := Lib.hid ho1
    have HE := Lib.hid her
    clear h1 ho1 hkp her
    go_upto_region 5 with fail
    obtain ⟨w2, hw2⟩ : ∃ w2 : World, w2 = w1.alloc (.cells #[.int .i64 kd, .int .i64 kp] 98) := ⟨_, rfl⟩
    obtain ⟨r, hr⟩ : ∃ r, r = w1.heap.size := ⟨_, rfl⟩
    have h2 : DiskIs w2 S q mb fv' (A ++ x :: B) d.next := by rw [hw2]; exact H1.out.below ((Below.refl _ _).alloc (Nat.le_refl _) _)
    have ho2 : Only (fun k => k = q) w' w2 := by rw [hw2]; exact HO1.out.trans (only_alloc (fun k => k = q) _ _) (fun _ _ h => h)
    rw [← hw2, ← hr]
    clear hw2 hr H1 HO1
    by_cases h0 : er = 0
    · subst h0
      have hx := h2.each x (by simp)
      have hxc := hx.cells
      obtain ⟨nd, hnd⟩ : ∃ nd, x.f.named = nd := ⟨_, rfl⟩
      have k3 : w2.cell? ⟨x.blk, 3, none⟩ = some (.bool nd) := by rw [← hnd]; exact cell_of hxc rfl
      cases nd with
      | false =>
        have c0 : w2.cell? ⟨q, 0, none⟩ = some (.map (some mb)) := cell_of h2.head rfl
        obtain ⟨D, hown, hdsz, hdic⟩ := h2.look
        have HOWN := Lib.hid (And.intro hown hdic)
        have HKEY : Hid (keyOf Tryz.prog 9 (.string nm) = some (.string nm.data.toList)) := Lib.hid (WideMaps.keyOf_string_mk (P := Tryz.prog) Tryz.underlying9 hs)
        have H2 := Lib.hid h2
        have HO2 := Lib.hid ho2
        have HND := Lib.hid hnd
        clear h2 ho2 hx hxc hown hdsz hdic hnd
        go_wp2_with (at_delete; refine wpList_delete_own _ rfl _ _ 118 9 rfl 175 (string_keyed Tryz.underlying9) Tryz.underlying118 ptrElem mb _ D rfl HOWN.out.1 _ _ rfl HKEY.out ?_; intro w3 hown3 hturn3; have HW3 := Lib.hid (And.intro hown3 hturn3); clear hown3 hturn3)
        go_ret
        have h3 := set_drop (d := d) HO2.out H2.out HOWN.out.2 HW3.out.2 HW3.out.1 hxn rfl
        have e : d.remove nm.data.toList = (0, { d.next with files := d.files.filter fun f => f.name != nm.data.toList }) := by
          unfold Dk.remove
          rw [HN.out.1, HN.out.2]
          simp only [HE.out, HND.out]
          rw [if_neg (by simp), if_neg (by simp), if_neg (by simp)]
        rw [e]
        exact h3
      | true =>
        obtain ⟨oaf, cf, hbv, hnc⟩ := hx.row.shape
        obtain ⟨N, hnn⟩ : ∃ N, x.f.bytes.length = N := ⟨_, rfl⟩
        obtain ⟨l, hll⟩ : ∃ l, x.f.lasts = l := ⟨_, rfl⟩
        have hlN : l ≤ N := by rw [← hnn, ← hll]; exact hx.lasts
        have hxr := hx.row
        rw [hbv, hnn] at hxr
        obtain ⟨hm0, hNc⟩ := hxr.map0
        rw [hbv, hnn, hll, hxt, hnd] at hxc
        have hsl : ∀ W : World, (Instr.slice 39 (.slice oaf N cf) none (some (.int .i64 (l : Int))) (some (.int .i64 (l : Int)))).run Tryz.prog W = .ok (.slice oaf l l) W := fun W => run_both oaf N cf l (by omega) hm0 W
        have k2 : w2.cell? ⟨x.blk, 2, none⟩ = some (.bool true) := cell_of hxc rfl
        have z2 : w2.frozen? ⟨x.blk, 2, none⟩ = false := free_of hxc _
        have HO : Hid (OpIs w' S q (d.remove nm.data.toList) (.returned (.int .i64 0)) ((w2.setCell ⟨x.blk, 2, none⟩ (.bool false)).setCell ⟨x.blk, 0, none⟩ (.slice oaf l l)).drew) := Lib.hid (by
          have h3 := set_gone ho2 h2 (oa := oaf) (c := cf) hbv hll (s := nm.data.toList) (t := fun f => { f with bytes := f.bytes.take f.lasts, there := false }) hxn rfl 0
          have e : d.remove nm.data.toList = (0, d.next.turn nm.data.toList fun f => { f with bytes := f.bytes.take f.lasts, there := false }) := by
            unfold Dk.remove
            rw [HN.out.1, HN.out.2]
            simp only [HE.out, hnd]
            rw [if_neg (by simp), if_neg (by simp), if_pos trivial]
          rw [e]
          exact h3)
        have hc3 := heap_setCell_here (i := 2) (.bool false) hxc
        clear h2 ho2 hx hxr hm0 hbv hnn hll hnc hnd
        go_upto_region 11 with fail
        obtain ⟨w3, hw3⟩ : ∃ w3 : World, w3 = w2.setCell ⟨x.blk, 2, none⟩ (.bool false) := ⟨_, rfl⟩
        rw [← hw3] at HO hc3 ⊢
        have k0 : w3.cell? ⟨x.blk, 0, none⟩ = some (.slice oaf N cf) := cell_of hc3 rfl
        have z0 : w3.frozen? ⟨x.blk, 0, none⟩ = false := free_of hc3 _
        have k1 : w3.cell? ⟨x.blk, 1, none⟩ = some (.int .i64 l) := cell_of hc3 rfl
        clear hw3 hc3 hxc k2 z2 k3
        go_region
        go_wp2_with fail
        go_ret
        exact HO.out
    · have hb0 : (er != 0) = true := by simpa using h0
      have HO : Hid (OpIs w' S q (d.remove nm.data.toList) (.returned (.int .i64 er)) w2) := Lib.hid (by
        rw [show d.remove nm.data.toList = (er, d.next) by
          unfold Dk.remove
          rw [HN.out.1, HN.out.2]
          simp only [HE.out]
          rw [if_neg (by simp), if_pos h0]]
        exact OpIs.next ho2 h2 er)
      clear h0 h2 ho2
      go_wp2_with fail
      go_ret
      exact HO.out
end Go.Proofs.YtlgcoaeddeiegaaGreat
/- Disk: are fates such as may be. -/
namespace Go.Proofs.YtlgcoaeddeiegaaGreat
open Go Go.Maps Go.RowKit

def badFate (x : Int × Int) : Bool := decide (x.1 < 0) || decide (2 < x.1)
set_option maxRecDepth 100000 in
set_option maxHeartbeats 400000 in
theorem badFate_b (k n : Int) (w : World) : Calls Tryz.prog 129 #[.agg #[.int .i64 k, .int .i64 n]] w fun e w' => e = .returned (.bool (badFate (k, n))) ∧ Below w.heap.size w w' := by
  go_enter Tryz.func129, Tryz.ntmps129
  go_upto_region 1 with fail
  obtain ⟨w1, hw1⟩ : ∃ w1 : World, w1 = w.alloc (.cells #[.int .i64 k, .int .i64 n] 98) := ⟨_, rfl⟩
  obtain ⟨r, hr⟩ : ∃ r, r = w.heap.size := ⟨_, rfl⟩
  have hr1 : w1.heap[r]? = some (.cells #[.int .i64 k, .int .i64 n] 98 (0, 0)) := by rw [hw1, hr]; exact alloc_cells _ _ _
  have HB : Hid (Below w.heap.size w w1) := Lib.hid (by rw [hw1]; exact (Below.refl _ _).alloc (Nat.le_refl _) _)
  rw [← hr, ← hw1]
  clear hw1 hr
  have c0 : w1.cell? ⟨r, 0, none⟩ = some (.int .i64 k) := cell_of hr1 rfl
  by_cases h1 : k < 0
  · have d1 : decide (k < 0) = true := by simpa using h1
    have HV : Hid (badFate (k, n) = true) := Lib.hid (by simp [badFate, h1])
    clear h1
    go_wp2_with fail
    go_ret
    exact ⟨by rw [HV.out]; rfl, HB.out⟩
  · have d1 : decide (k < 0) = false := by simpa using h1
    have HV : Hid (badFate (k, n) = decide (2 < k)) := Lib.hid (by simp [badFate]; omega)
    clear h1
    go_wp2_with fail
    go_ret
    exact ⟨by rw [HV.out]; rfl, HB.out⟩
theorem fate_cells (l : List (Int × Int)) (k : Nat) (h : k < l.length) : (fateCells l)[2 * k]? = some (.int .i64 l[k].1) ∧ (fateCells l)[2 * k + 1]? = some (.int .i64 l[k].2) := by
  induction l generalizing k with
  | nil => simp at h
  | cons x r ih =>
    cases k with
    | zero => exact ⟨rfl, rfl⟩
    | succ k =>
      have := ih k (by simpa using h)
      rw [fateCells_cons, show 2 * (k + 1) = 2 * k + 1 + 1 by omega]
      simpa using this
set_option maxRecDepth 100000 in
set_option maxHeartbeats 400000 in
theorem indexFate_b {w : World} {oa : Option Addr} {n c : Nat} {l : List (Int × Int)} (hn : l.length = n) (h : readAt w 2 (.slice oa n c) n (fateCells l)) (hm : n ≤ 1000000000) :
    Calls Tryz.prog 179 #[.slice oa n c, .func (.func 129) #[] #[]] w fun e w' => ∃ i : Int, e = .returned (.int .i64 i) ∧ (l.any badFate = false → i = -1) ∧ (l.any badFate = true → 0 ≤ i) ∧ Below w.heap.size w w' := by
  have H := Lib.hid h
  clear h
  go_enter Tryz.func179, Tryz.ntmps179
  go_wp2_with fail
  go_loopw [8] (fun i wr => ∃ k : Nat, k ≤ n ∧ i = .int .i64 k ∧ (l.take k).any badFate = false ∧ Below w.heap.size w wr) (fun i _ => n - (intOf i).toNat)
  case atStart => exact ⟨0, Nat.zero_le _, rfl, by simp, Below.refl _ _⟩
  case round =>
    obtain ⟨k, hk, rfl, hge, hbr⟩ := hrel
    by_cases hlt : k < n
    · obtain ⟨g, off, rfl⟩ := H.out.addr (by omega)
      obtain ⟨x, hx⟩ : ∃ x, l[k]'(by omega) = x := ⟨_, rfl⟩
      have hfc := fate_cells l k (by omega)
      rw [hx] at hfc
      have hgl := H.out.lt (by omega) g rfl
      have hc0 : wr.cell? ⟨g, off + k * 2, none⟩ = some (.int .i64 x.1) := by
        have h1 := H.out.cells (g := g) (off := off) rfl (2 * k) _ hfc.1
        rw [Go.WideShapes.add_plain, Nat.mul_comm] at h1
        rw [← h1]
        exact cell_kept_at (hbr.block g hgl)
      have hc1 : wr.cell? ⟨g, off + k * 2 + 1, none⟩ = some (.int .i64 x.2) := by
        have h1 := H.out.cells (g := g) (off := off) rfl (2 * k + 1) _ hfc.2
        rw [Go.WideShapes.add_plain, Nat.mul_comm, ← Nat.add_assoc] at h1
        rw [← h1]
        exact cell_kept_at (hbr.block g hgl)
      have HX : Hid (badFate x = false → (l.take (k + 1)).any badFate = false) := Lib.hid fun h0 => by
        rw [List.take_succ_eq_append_getElem (by omega), List.any_append, hge, hx]
        simp [h0]
      have HY : Hid (badFate x = true → l.any badFate = true) := Lib.hid fun h0 => List.any_eq_true.2 ⟨x, by rw [← hx]; exact List.getElem_mem _, h0⟩
      have HBR := Lib.hid hbr
      obtain ⟨x1, x2⟩ := x
      clear hge hx hfc hbr hgl
      go_wp2_with (go_at_call 129; refine (badFate_b x1 x2 _).mono ?_; rintro e w' ⟨rfl, hb'⟩; have HB' := Lib.hid hb'; clear hb')
      · go_ret
        exact ⟨_, rfl, fun ha => (by rw [HY.out (by assumption)] at ha; cases ha), fun _ => by omega, HBR.out.trans (HB'.out.mono HBR.out.size)⟩
      · exact ⟨⟨k + 1, by omega, by simp, HX.out (by assumption), HBR.out.trans (HB'.out.mono HBR.out.size)⟩, by simp [intOf]; omega⟩
    · obtain rfl : k = n := by omega
      have HA : Hid (l.any badFate = false) := Lib.hid (by rwa [List.take_of_length_le (by omega)] at hge)
      have HBR := Lib.hid hbr
      clear hge hbr
      go_wp2_with fail
      go_ret
      exact ⟨_, rfl, fun _ => rfl, fun h => (by rw [HA.out] at h; cases h), HBR.out⟩
end Go.Proofs.YtlgcoaeddeiegaaGreat
/- Disk: are all fates right; a copy of fates. -/
namespace Go.Proofs.YtlgcoaeddeiegaaGreat
open Go Go.Maps Go.RowKit

set_option maxHeartbeats 400000 in
theorem containsFate_b {w : World} {oa : Option Addr} {n c : Nat} {l : List (Int × Int)} (hn : l.length = n) (h : readAt w 2 (.slice oa n c) n (fateCells l)) (hm : n ≤ 1000000000) :
    Calls Tryz.prog 128 #[.slice oa n c, .func (.func 129) #[] #[]] w fun e w' => e = .returned (.bool (l.any badFate)) ∧ Below w.heap.size w w' := by
  go_enter Tryz.func128, Tryz.ntmps128
  go_wp2_with fail
  refine (indexFate_b hn h hm).mono ?_
  rintro e w1 ⟨i, rfl, h1, h2, hb⟩
  have hd : decide ((0 : Int) ≤ i) = l.any badFate := by
    cases hb : l.any badFate with
    | false =>
      have := h1 hb
      simp
      omega
    | true =>
      have := h2 hb
      simpa using this
  have HB := Lib.hid hb
  have HD := Lib.hid hd
  clear h h1 h2 hb hd
  go_wp2_with fail
  go_ret
  exact ⟨by rw [← HD.out]; rfl, HB.out⟩
set_option maxHeartbeats 400000 in
theorem right_b {w : World} {oa : Option Addr} {n c : Nat} {l : List (Int × Int)} (hn : l.length = n) (h : readAt w 2 (.slice oa n c) n (fateCells l)) (hm : n ≤ 1000000000) :
    Calls Tryz.prog 58 #[.slice oa n c] w fun e w' => e = .returned (.bool (!l.any badFate)) ∧ Below w.heap.size w w' := by
  go_enter Tryz.func58, Tryz.ntmps58
  go_wp2_with fail
  refine (containsFate_b hn h hm).mono ?_
  rintro e w1 ⟨rfl, hb⟩
  obtain ⟨b, hbb⟩ : ∃ b, l.any badFate = b := ⟨_, rfl⟩
  rw [hbb]
  have HB := Lib.hid hb
  have HBB := Lib.hid hbb
  clear h hb hbb
  go_wp2_with fail
  go_ret
  exact ⟨by rw [HBB.out]; rfl, HB.out⟩
theorem info_fate : (Tryz.prog.info? 98).map (fun i => (i.zero, i.size, i.bytes)) = some (some (.agg #[.int .i64 0, .int .i64 0]), 2, 16) := by kernel_rfl
theorem fateCells_one (l : List (Int × Int)) : ∀ v ∈ fateCells l, v.oneCell' = true := by
  intro v hv
  obtain ⟨x, _, hx⟩ := List.mem_flatMap.1 hv
  simp only [List.mem_cons, List.not_mem_nil, or_false] at hx
  rcases hx with rfl | rfl <;> rfl
theorem emptyRowF (w : World) (T : TypeId) (size : Nat) : hasRow (w.alloc (.cells #[] T)) w.heap.size T size (.slice (some ⟨w.heap.size, 0, none⟩) 0 0) 0 [] :=
  ⟨by simp, .inr ⟨_, 0, #[], (0, 0), rfl, Nat.le_refl _, heap_alloc_new _ _, Nat.le_refl _, Nat.zero_le _, by simp, fun j hj => by simp at hj, by simp⟩⟩
set_option maxRecDepth 100000 in
set_option maxHeartbeats 400000 in
theorem cloneFate_b {w : World} {oa : Option Addr} {n c : Nat} {l : List (Int × Int)} (hn : l.length = n) (h : readAt w 2 (.slice oa n c) n (fateCells l)) (hm : n ≤ 1000000000) :
    Calls Tryz.prog 59 #[.slice oa n c] w fun e w' => ∃ v, e = .returned v ∧ rowAt w' 98 2 v n (fateCells l) ∧ (∀ k, v.ownBlock = some k → w.heap.size ≤ k) ∧ Below w.heap.size w w' := by
  cases oa with
  | none =>
    rcases h.2 with ⟨h0, _, _, hv, hc0⟩ | ⟨g, off, c, hv, _⟩
    · simp only [Value.slice.injEq] at hv
      obtain ⟨rfl, -, rfl⟩ := hv
      obtain rfl := hc0 rfl
      subst h0
      have H := Lib.hid h
      refine (cloneFate_nil w).mono ?_
      rintro e w' ⟨rfl, rfl⟩
      exact ⟨_, rfl, ⟨H.out.1, .inl ⟨rfl, rfl⟩⟩, fun k hk => by simp [Value.ownBlock] at hk, Below.refl _ _⟩
    · simp at hv
  | some ad =>
    have hnil : ∀ W : World, (binOp .eql 37 (.slice (some ad) n c) (.slice none 0 0)).run Tryz.prog W = .ok (.bool false) W := fun W => by kernel_rfl
    have HS : Hid (Src Tryz.prog (w.alloc (.cells #[] 98)) 2 37 (.slice (some ad) n c) n (fateCells l)) := Lib.hid (Src.of_read Tryz.underlying37 (h.kept (fun k hl _ _ => Below.heap_alloc _ _ k hl)) (fateCells_one _))
    clear h
    go_enter Tryz.func59, Tryz.ntmps59
    go_wp2_with (at_builtin; refine wpList_append_at _ rfl (.tmp 5) (.tmp 6) 37 37 rfl 98 (.agg #[.int .i64 0, .int .i64 0]) 2 16 Tryz.underlying37 info_fate rfl _ 0 _ rfl (rowAt.of_row (emptyRowF w _ _)) _ n _ rfl HS.out (by unfold maxLen; omega) (by omega) ?_; intro v' w3 hr hg hown _; have HR := Lib.hid hr; have HG : Hid ((w.alloc (.cells #[] 98)).grownBy w3 (some w.heap.size)) := Lib.hid hg; have HOWN : Hid (v'.ownBlock = some w.heap.size ∨ v'.ownBlock = some (w.alloc (.cells #[] 98)).heap.size) := Lib.hid hown; clear hr hg hown)
    go_ret
    refine ⟨v', rfl, ?_, fun k hk => ?_, ?_⟩
    · have := HR.out
      rw [Nat.zero_add, List.nil_append] at this
      exact this
    · have h1 := HOWN.out
      rw [hk] at h1
      simp at h1
      omega
    · exact ((Below.refl _ _).alloc (Nat.le_refl _) _).grown HG.out (by simp) (fun k hk => by simp at hk; omega)
end Go.Proofs.YtlgcoaeddeiegaaGreat
/- Disk: New, with any fates. -/
namespace Go.Proofs.YtlgcoaeddeiegaaGreat
open Go Go.Maps Go.RowKit

theorem disk_newF {w w2 w3 : World} {v : Value} {l : List (Int × Int)} (hw2 : w2 = w.alloc (.map #[] 0)) (hb : Below w2.heap.size w2 w3) (hr : rowAt w3 98 2 v l.length (fateCells l)) (hv : ∀ k, v.ownBlock = some k → w2.heap.size ≤ k) :
    DiskIs (w3.alloc (.cells #[.map (some w.heap.size), v, .int .i64 0] 120)) (fun k => w.heap.size ≤ k ∧ k < w3.heap.size + 1) w3.heap.size w.heap.size v [] ⟨[], l, 0⟩ := by
  have hs2 : w2.heap.size = w.heap.size + 1 := by rw [hw2]; simp
  have hs3 := hb.size
  have hm2 : w2.ownsMap Tryz.prog 9 ptrElem w.heap.size 0 (.map []) := by rw [hw2]; exact World.ownsMap_made w Tryz.prog 9 ptrElem
  have hm3 := ownsMap_kept hm2 (hb.block w.heap.size (by omega))
  have hvb : ∀ k, v.ownBlock = some k → w.heap.size + 1 ≤ k ∧ k < w3.heap.size := fun k hk => ⟨by have := hv k hk; omega, hr.lt k hk⟩
  exact {
    files := rfl
    head := alloc_cells _ _ _
    fates := hr.kept (fun k hk => Below.heap_alloc _ _ k (hr.lt k hk))
    map := ⟨_, hm3.alloc _, Dic.empty⟩
    each := fun x hx => (by cases hx)
    apart := by
      cases ho : v.ownBlock with
      | none =>
        simp [diskBlocks, ho]
        omega
      | some k =>
        have := hvb k ho
        simp [diskBlocks, ho]
        omega
    foot := fun k hk => by
      simp only [diskBlocks, List.mem_cons, List.flatMap_nil, List.append_nil, Option.mem_toList] at hk
      rcases hk with rfl | rfl | hk
      · omega
      · omega
      · have := hvb k hk
        omega
    low := fun k hk => by simp; omega
    sorted := by simp
    names := fun f hf => by simp at hf
    few := by simp }
set_option maxHeartbeats 400000 in
theorem newF_b {w : World} {oa : Option Addr} {n c : Nat} {l : List (Int × Int)} (hn : l.length = n) (h : readAt w 2 (.slice oa n c) n (fateCells l)) (hm : n ≤ 1000000000) (hok : l.any badFate = false) :
    Calls Tryz.prog 14 #[.slice oa n c] w fun e w' => ∃ q, e = .returned (.tuple #[.pointer (some ⟨q, 0, none⟩), .int .i64 0]) ∧ DiskAt w' (fun k => w.heap.size ≤ k ∧ k < w'.heap.size) q ⟨[], l, 0⟩ ∧ Below w.heap.size w w' := by
  have hmm := @run_makeMap Tryz.prog
  go_enter Tryz.func14, Tryz.ntmps14
  go_wp2_with fail
  refine (right_b hn h hm).mono ?_
  rintro e w1 ⟨rfl, hb1⟩
  rw [hok]
  have H1 := Lib.hid (h.kept (fun k hl _ _ => hb1.block k hl))
  have HB1 := Lib.hid hb1
  clear h hb1
  go_upto_region 3 with fail
  go_wp2_with fail
  have hbm : Below w1.heap.size w1 (w1.alloc (.map #[] 0)) := (Below.refl _ _).alloc (Nat.le_refl _) _
  refine (cloneFate_b hn (H1.out.kept (fun k hl _ _ => hbm.block k hl)) hm).mono ?_
  rintro e w3 ⟨v, rfl, hr3, hv3, hb3⟩
  obtain ⟨oav, cv, rfl, _⟩ := hr3.shape
  subst hn
  have hdn := disk_newF rfl hb3 hr3 hv3
  have hs3 := hb3.size
  have HD := Lib.hid hdn
  have HB3 := Lib.hid (And.intro hb3 (And.intro hbm hs3))
  clear hr3 hv3 hb3 hbm hdn hs3
  go_wp2_with fail
  go_ret2
  have h1 := HB1.out.size
  have h3 := HB3.out.2.2
  simp at h3
  refine ⟨_, rfl, ⟨_, _, _, HD.out.wider (fun k hk => ⟨by omega, by simp; omega⟩) (fun k hk => hk.2)⟩, ?_⟩
  exact (HB1.out.trans ((HB3.out.2.1.trans (HB3.out.1.mono HB3.out.2.1.size)).mono h1)).alloc (by omega) _
end Go.Proofs.YtlgcoaeddeiegaaGreat
/- Disk: the fates are written. -/
namespace Go.Proofs.YtlgcoaeddeiegaaGreat
open Go Go.Maps Go.RowKit

section
variable {w : World} {S : Nat → Prop} {q mb : Nat} {fv : Value} {L : List Fl} {d : Dk}
/-- the struct and its fates are written -/
theorem DiskIs.fates_turn {w' : World} {fv' : Value} {fs' : List (Int × Int)} {st' : Int} (h : DiskIs w S q mb fv L d) (ho : Only (fun k => k = q ∨ fv.ownBlock = some k) w w')
    (hq : w'.heap[q]? = some (.cells #[.map (some mb), fv', .int .i64 st'] 120 (0, 0))) (hob : ∀ k, fv'.ownBlock = some k → fv.ownBlock = some k ∨ (w.heap.size ≤ k ∧ k < w'.heap.size))
    (hr : rowAt w' 98 2 fv' fs'.length (fateCells fs')) : DiskIs w' (fun k => S k ∨ (w.heap.size ≤ k ∧ k < w'.heap.size)) q mb fv' L { d with fates := fs', steps := st' } := by
  have hap := h.apart
  simp only [diskBlocks, List.nodup_cons, List.mem_cons, not_or] at hap
  obtain ⟨⟨hqm, hqr⟩, hmr, hrest⟩ := hap
  have hfr := List.nodup_append.1 hrest
  have hmS : S mb := h.foot mb (by simp [diskBlocks])
  have hqS : S q := h.q_mem
  have hbS : ∀ k ∈ L.flatMap Fl.blocks, S k := fun k hk => h.foot k (by simp only [diskBlocks, List.mem_cons, List.mem_append]; exact .inr (.inr (.inr hk)))
  have hkeep : ∀ k, S k → k ≠ q → fv.ownBlock ≠ some k → w'.heap[k]? = w.heap[k]? := fun k hk h1 h2 => ho.block k (h.low k hk) (fun he => by
    rcases he with he | he
    · exact h1 he
    · exact h2 he)
  have hmf : fv.ownBlock ≠ some mb := fun e => hmr (List.mem_append_left _ (by simp [e]))
  have hbf : ∀ k ∈ L.flatMap Fl.blocks, fv.ownBlock ≠ some k := fun k hk e => hfr.2.2 k (by simp [e]) k hk rfl
  have hbq : ∀ k ∈ L.flatMap Fl.blocks, k ≠ q := fun k hk e => hqr (List.mem_append_right _ (e ▸ hk))
  exact {
    files := h.files
    head := hq
    fates := hr
    map := by
      obtain ⟨D, hown, hd⟩ := h.map
      exact ⟨D, ownsMap_kept hown (hkeep mb hmS (fun e => hqm e.symm) hmf), hd⟩
    each := fun x hx => (h.each x hx).kept (fun k hk => by
      have hk' : k ∈ L.flatMap Fl.blocks := List.mem_flatMap.2 ⟨x, hx, hk⟩
      exact hkeep k (hbS k hk') (hbq k hk') (hbf k hk'))
    apart := by
      have hfv : ∀ k, fv'.ownBlock = some k → k ≠ q ∧ k ≠ mb ∧ k ∉ L.flatMap Fl.blocks := fun k hk => by
        rcases hob k hk with h1 | h1
        · exact ⟨fun e => hqr (List.mem_append_left _ (by simp [h1, e])), fun e => hmr (List.mem_append_left _ (by simp [h1, e])), fun hm => hbf k hm h1⟩
        · have h2 := h.low q hqS
          have h3 := h.low mb hmS
          exact ⟨by omega, by omega, fun hm => by have := h.low k (hbS k hm); omega⟩
      simp only [diskBlocks, List.nodup_cons, List.mem_cons, List.mem_append, Option.mem_toList, not_or]
      refine ⟨⟨hqm, fun e => (hfv q e).1 rfl, fun hm => hbq q hm rfl⟩, ⟨fun e => (hfv mb e).2.1 rfl, fun hm => hmr (List.mem_append_right _ hm)⟩, List.nodup_append.2 ⟨?_, hfr.2.1, fun a ha b hb e => ?_⟩⟩
      · cases fv'.ownBlock <;> simp
      · subst e
        exact (hfv a (by simpa using ha)).2.2 hb
    foot := fun k hk => by
      simp only [diskBlocks, List.mem_cons, List.mem_append, Option.mem_toList] at hk
      rcases hk with rfl | rfl | hk | hk
      · exact .inl hqS
      · exact .inl hmS
      · rcases hob k hk with h1 | h1
        · exact .inl (h.foot k (by simp [diskBlocks, h1]))
        · exact .inr h1
      · exact .inl (hbS k hk)
    low := fun k hk => by
      rcases hk with hk | hk
      · exact Nat.lt_of_lt_of_le (h.low k hk) ho.size
      · exact hk.2
    sorted := h.sorted
    names := h.names
    few := h.few }
end
end Go.Proofs.YtlgcoaeddeiegaaGreat
/- Disk: Feed. -/
namespace Go.Proofs.YtlgcoaeddeiegaaGreat
open Go Go.Maps Go.RowKit

def Dk.feed (d : Dk) (l : List (Int × Int)) : Int × Dk := if l.any badFate = true then (2, d) else (0, { d with fates := d.fates ++ l })
theorem fateCells_append (a b : List (Int × Int)) : fateCells a ++ fateCells b = fateCells (a ++ b) := by simp [fateCells]
set_option maxRecDepth 100000 in
set_option maxHeartbeats 1000000 in
theorem feed_b {w : World} {S : Nat → Prop} {q : Nat} {d : Dk} (h : DiskAt w S q d) {oa : Option Addr} {n c : Nat} {l : List (Int × Int)} (hn : l.length = n) (hl : readAt w 2 (.slice oa n c) n (fateCells l)) (hm : n ≤ 1000000) (hdm : d.fates.length ≤ 1000000000) :
    Calls Tryz.prog 44 #[.pointer (some ⟨q, 0, none⟩), .slice oa n c] w fun e w' => OpIs w S q (d.feed l) e w' := by
  obtain ⟨mb, fv, L, h⟩ := h
  go_enter Tryz.func44, Tryz.ntmps44
  go_wp2_with fail
  refine (none_b h).mono ?_
  rintro e w' ⟨rfl, rfl⟩
  go_wp2_with fail
  refine (right_b hn hl (by omega)).mono ?_
  rintro e w1 ⟨rfl, hb1⟩
  have h1 := h.below hb1
  have hl1 := hl.kept (fun k hl _ _ => hb1.block k hl)
  have hob : Only (fun k => k = q) w' w1 := Only.of_below hb1 (Nat.le_refl _) _
  obtain ⟨b, hbb⟩ : ∃ b, l.any badFate = b := ⟨_, rfl⟩
  rw [hbb]
  cases b with
  | true =>
    have HO : Hid (OpIs w' S q (d.feed l) (.returned (.int .i64 2)) w1) := Lib.hid (by
      rw [show d.feed l = (2, d) by simp [Dk.feed, hbb]]
      exact OpIs.next hob h1 2)
    clear h hl hb1 h1 hl1 hob hbb
    go_wp2_with fail
    go_ret
    exact HO.out
  | false =>
    obtain ⟨oaf, cf, rfl, _⟩ := h1.fates.shape
    obtain ⟨st, hst⟩ : ∃ st, d.steps = st := ⟨_, rfl⟩
    obtain ⟨m, hmm⟩ : ∃ m, d.fates.length = m := ⟨_, rfl⟩
    have hh := h1.head
    rw [hst, hmm] at hh
    rw [hmm] at hdm
    have hfr : rowAt w1 98 2 (.slice oaf m cf) m (fateCells d.fates) := by have := h1.fates; rwa [hmm] at this
    have hqv : ∀ k, (Value.slice oaf m cf).ownBlock = some k → k ≠ q := fun k hk he => by
      have h2 := h1.apart
      simp only [diskBlocks, List.nodup_cons] at h2
      have h3 : (Value.slice oaf d.fates.length cf).ownBlock = some k := by rw [hmm]; exact hk
      exact h2.1 (by rw [← he]; simp [h3])
    have HS : Hid (Src Tryz.prog w1 2 37 (.slice oa n c) n (fateCells l)) := Lib.hid (Src.of_read Tryz.underlying37 hl1 (fateCells_one _))
    have HF := Lib.hid hfr
    have HH := Lib.hid hh
    have H1 := Lib.hid h1
    have HOB := Lib.hid hob
    have HQV := Lib.hid hqv
    have HBB := Lib.hid (And.intro hbb (And.intro hst hmm))
    have c1 : w1.cell? ⟨q, 1, none⟩ = some (.slice oaf m cf) := cell_of hh rfl
    have hqlt : q < w1.heap.size := (Array.getElem?_eq_some_iff.1 hh).1
    clear h hl hb1 h1 hl1 hob hbb hst hmm hh hfr hqv
    go_wp2_with (at_builtin; refine wpList_append_at _ rfl (.tmp 16) (.tmp 17) 37 37 rfl 98 (.agg #[.int .i64 0, .int .i64 0]) 2 16 Tryz.underlying37 info_fate rfl _ m _ rfl HF.out _ n _ rfl HS.out (by unfold maxLen; omega) (by omega) ?_; intro v' w3 hr hg hown _; obtain ⟨oa', c', rfl, _⟩ := hr.shape; have hg' : w1.grownBy w3 (Value.slice oaf m cf).ownBlock := hg; have hown' : (Value.slice oa' (m + n) c').ownBlock = (Value.slice oaf m cf).ownBlock ∨ (Value.slice oa' (m + n) c').ownBlock = some w1.heap.size := hown; have hh3 : w3.heap[q]? = w1.heap[q]? := hg'.block q hqlt (fun e => HQV.out q e.symm rfl); have hc3 : w3.cell? ⟨q, 1, none⟩ = some (.slice oaf m cf) := (by rw [← c1]; exact cell_kept_at hh3); have hz3 : w3.frozen? ⟨q, 1, none⟩ = false := (by rw [frozen_kept_at hh3]; exact free_of HH.out _); have HR := Lib.hid hr; have HG := Lib.hid hg'; have HOWN := Lib.hid hown'; have HH3 := Lib.hid hh3; clear hr hg hown hg' hown' hh3)
    go_ret
    obtain ⟨w4, hw4⟩ : ∃ w4 : World, w4 = w3.setCell ⟨q, 1, none⟩ (.slice oa' (m + n) c') := ⟨_, rfl⟩
    have hset : Only (fun k => k = q) w3 w4 := by rw [hw4]; exact only_setCell (fun k => k = q) w3 q 1 _ rfl
    have hq4 : w4.heap[q]? = some (.cells #[.map (some mb), .slice oa' (m + n) c', .int .i64 st] 120 (0, 0)) := by rw [hw4]; exact heap_setCell_here _ (HH3.out.trans HH.out)
    rw [← hw4]
    have hvq : ∀ k, (Value.slice oa' (m + n) c').ownBlock = some k → k ≠ q := fun k hk => by
      rcases HOWN.out with h5 | h5
      · exact HQV.out k (by rw [← h5]; exact hk)
      · rw [h5] at hk
        simp only [Option.some.injEq] at hk
        omega
    have hr4 : rowAt w4 98 2 (.slice oa' (m + n) c') (d.fates ++ l).length (fateCells (d.fates ++ l)) := by
      rw [← fateCells_append, List.length_append, HBB.out.2.2, hn]
      exact HR.out.kept (fun k hk => hset.block k (HR.out.lt k hk) (hvq k hk))
    have ho : Only (fun k => k = q ∨ (Value.slice oaf d.fates.length cf).ownBlock = some k) w1 w4 := (Only.of_grown (S := fun k => k = q ∨ (Value.slice oaf d.fates.length cf).ownBlock = some k) HG.out (fun k hk => .inr (by rw [HBB.out.2.2]; exact hk))).trans hset (fun i _ hi => .inl hi)
    have h5 := H1.out.fates_turn (fs' := d.fates ++ l) (st' := st) ho hq4 (fun k hk => by
      rcases HOWN.out with h6 | h6
      · exact .inl (by rw [HBB.out.2.2, ← h6]; exact hk)
      · have h7 := HR.out.lt k hk
        rw [h6] at hk
        simp only [Option.some.injEq] at hk
        have := hset.size
        exact .inr ⟨by omega, by omega⟩) hr4
    have e : d.feed l = (0, { d with fates := d.fates ++ l, steps := st }) := by
      simp only [Dk.feed, HBB.out.1]
      rw [if_neg (by simp), ← HBB.out.2.1]
    rw [e]
    refine ⟨rfl, ⟨mb, _, _, h5.wider (fun k hk => ?_) (fun k hk => ?_)⟩, ?_⟩
    · rcases hk with hk | hk
      · exact .inl hk
      · exact .inr ⟨Nat.le_trans HOB.out.size hk.1, hk.2⟩
    · rcases hk with hk | hk
      · exact Nat.lt_of_lt_of_le (H1.out.low k hk) ho.size
      · exact hk.2
    · exact (HOB.out.mono (fun i _ hi => by rw [hi]; exact H1.out.q_mem)).trans ho (fun i _ hi => by
        rcases hi with hi | hi
        · rw [hi]; exact H1.out.q_mem
        · exact H1.out.foot i (by simp [diskBlocks, hi]))
end Go.Proofs.YtlgcoaeddeiegaaGreat
/- Disk: all names, rising. -/
namespace Go.Proofs.YtlgcoaeddeiegaaGreat
open Go Go.RowKit Go.Maps Go.Sort Go.Shelf
open Go.Proofs (encStr)

def keysL_ren : Go.Shelf.Ren := ⟨fun | 7 => 159 | 10 => 195 | n => n, fun | 23 => 118 | 26 => 9 | 3 => 175 | 28 => 244 | 0 => 0 | 27 => 243 | 33 => 268 | 4 => 4 | n => n, fun | n => n⟩
theorem keysL : Go.Proofs.SlLaysZ.n7 Tryz.prog keysL_ren := {
  mixed := by kernel_rfl
  f7 := ⟨Tryz.f159.name, by decide, Tryz.func159.trans (congrArg some (by kernel_rfl))⟩
  f10 := ⟨Tryz.f195.name, by decide, Tryz.func195.trans (congrArg some (by kernel_rfl))⟩
  t0 := Tryz.underlying0
  a0 := Tryz.isAgg0
  z0 := Tryz.sizeOf0
  v0 := Tryz.zeroValue0
  t4 := Tryz.underlying4
  a4 := Tryz.isAgg4
  z4 := Tryz.sizeOf4
  v4 := Tryz.zeroValue4
  t23 := Tryz.underlying118
  a23 := Tryz.isAgg118
  z23 := Tryz.sizeOf118
  v23 := Tryz.zeroValue118
  t26 := Tryz.underlying9
  a26 := Tryz.isAgg9
  z26 := Tryz.sizeOf9
  v26 := Tryz.zeroValue9
  t27 := Tryz.underlying243
  a27 := Tryz.isAgg243
  z27 := Tryz.sizeOf243
  v27 := Tryz.zeroValue243
  t28 := Tryz.underlying244
  a28 := Tryz.isAgg244
  z28 := Tryz.sizeOf244
  v28 := Tryz.zeroValue244
  t33 := Tryz.underlying268
  a33 := Tryz.isAgg268
  z33 := Tryz.sizeOf268
  v33 := Tryz.zeroValue268
}
def sortedL_ren : Go.Shelf.Ren := ⟨fun | 6 => 131 | 8 => 182 | 9 => 183 | 11 => 209 | 13 => 211 | 12 => 210 | 23 => 225 | 24 => 226 | 14 => 216 | 15 => 217 | 16 => 218 | 17 => 219 | 18 => 220 | 19 => 221 | 20 => 222 | 21 => 223 | 22 => 224 | 25 => 228 | 26 => 229 | 27 => 230 | 28 => 231 | 29 => 232 | 30 => 233 | 31 => 234 | n => n, fun | 26 => 9 | 28 => 244 | 24 => 43 | 0 => 0 | 3 => 3 | 37 => 172 | 48 => 315 | 50 => 314 | 4 => 4 | 40 => 343 | 39 => 342 | 45 => 303 | 5 => 5 | 9 => 9 | 51 => 353 | 55 => 357 | 57 => 359 | 58 => 360 | 33 => 268 | n => n, fun | n => n⟩
theorem sortedL : Go.Proofs.SlLaysZ.n6 Tryz.prog sortedL_ren := {
  mixed := by kernel_rfl
  f6 := ⟨Tryz.f131.name, by decide, Tryz.func131.trans (congrArg some (by kernel_rfl))⟩
  f8 := ⟨Tryz.f182.name, by decide, Tryz.func182.trans (congrArg some (by kernel_rfl))⟩
  f11 := ⟨Tryz.f209.name, by decide, Tryz.func209.trans (congrArg some (by kernel_rfl))⟩
  t0 := Tryz.underlying0
  a0 := Tryz.isAgg0
  z0 := Tryz.sizeOf0
  v0 := Tryz.zeroValue0
  t24 := Tryz.underlying43
  a24 := Tryz.isAgg43
  z24 := Tryz.sizeOf43
  v24 := Tryz.zeroValue43
  t26 := Tryz.underlying9
  a26 := Tryz.isAgg9
  z26 := Tryz.sizeOf9
  v26 := Tryz.zeroValue9
  t28 := Tryz.underlying244
  a28 := Tryz.isAgg244
  z28 := Tryz.sizeOf244
  v28 := Tryz.zeroValue244
  i26 := by kernel_rfl
}
def sortL_ren : Go.Shelf.Ren := ⟨fun | 6 => 183 | 8 => 211 | 9 => 210 | 19 => 225 | 20 => 226 | 21 => 216 | 22 => 217 | 23 => 218 | 24 => 219 | 25 => 220 | 26 => 221 | 27 => 222 | 28 => 223 | 29 => 224 | 36 => 228 | 31 => 229 | 32 => 230 | 37 => 231 | 38 => 232 | 39 => 233 | 41 => 234 | n => n, fun | 27 => 43 | 29 => 9 | 3 => 3 | 32 => 172 | 26 => 43 | 0 => 0 | 44 => 315 | 46 => 314 | 4 => 4 | 36 => 343 | 35 => 342 | 41 => 303 | 5 => 5 | 9 => 9 | 53 => 353 | 57 => 357 | 63 => 359 | 64 => 360 | n => n, fun | n => n⟩
theorem sortL : Go.Proofs.SlLaysM.n6 Tryz.prog sortL_ren := {
  mixed := by kernel_rfl
  f6 := ⟨Tryz.f183.name, by decide, Tryz.func183.trans (congrArg some (by kernel_rfl))⟩
  f8 := Tryz.func211.trans (congrArg some (by kernel_rfl))
  f9 := ⟨Tryz.f210.name, by decide, Tryz.func210.trans (congrArg some (by kernel_rfl))⟩
  f19 := Tryz.func225.trans (congrArg some (by kernel_rfl))
  f20 := Tryz.func226.trans (congrArg some (by kernel_rfl))
  f21 := ⟨Tryz.f216.name, by decide, Tryz.func216.trans (congrArg some (by kernel_rfl))⟩
  f22 := ⟨Tryz.f217.name, by decide, Tryz.func217.trans (congrArg some (by kernel_rfl))⟩
  f23 := ⟨Tryz.f218.name, by decide, Tryz.func218.trans (congrArg some (by kernel_rfl))⟩
  f24 := ⟨Tryz.f219.name, by decide, Tryz.func219.trans (congrArg some (by kernel_rfl))⟩
  f25 := ⟨Tryz.f220.name, by decide, Tryz.func220.trans (congrArg some (by kernel_rfl))⟩
  f26 := ⟨Tryz.f221.name, by decide, Tryz.func221.trans (congrArg some (by kernel_rfl))⟩
  f27 := ⟨Tryz.f222.name, by decide, Tryz.func222.trans (congrArg some (by kernel_rfl))⟩
  f28 := ⟨Tryz.f223.name, by decide, Tryz.func223.trans (congrArg some (by kernel_rfl))⟩
  f29 := ⟨Tryz.f224.name, by decide, Tryz.func224.trans (congrArg some (by kernel_rfl))⟩
  f31 := Tryz.func229.trans (congrArg some (by kernel_rfl))
  f32 := Tryz.func230.trans (congrArg some (by kernel_rfl))
  f36 := ⟨Tryz.f228.name, by decide, Tryz.func228.trans (congrArg some (by kernel_rfl))⟩
  f37 := ⟨Tryz.f231.name, by decide, Tryz.func231.trans (congrArg some (by kernel_rfl))⟩
  f38 := ⟨Tryz.f232.name, by decide, Tryz.func232.trans (congrArg some (by kernel_rfl))⟩
  f39 := ⟨Tryz.f233.name, by decide, Tryz.func233.trans (congrArg some (by kernel_rfl))⟩
  f41 := ⟨Tryz.f234.name, by decide, Tryz.func234.trans (congrArg some (by kernel_rfl))⟩
  t0 := Tryz.underlying0
  a0 := Tryz.isAgg0
  z0 := Tryz.sizeOf0
  v0 := Tryz.zeroValue0
  t3 := Tryz.underlying3
  a3 := Tryz.isAgg3
  z3 := Tryz.sizeOf3
  v3 := Tryz.zeroValue3
  t4 := Tryz.underlying4
  a4 := Tryz.isAgg4
  z4 := Tryz.sizeOf4
  v4 := Tryz.zeroValue4
  t5 := Tryz.underlying5
  a5 := Tryz.isAgg5
  z5 := Tryz.sizeOf5
  v5 := Tryz.zeroValue5
  t9 := Tryz.underlying9
  a9 := Tryz.isAgg9
  z9 := Tryz.sizeOf9
  v9 := Tryz.zeroValue9
  t26 := Tryz.underlying43
  a26 := Tryz.isAgg43
  z26 := Tryz.sizeOf43
  v26 := Tryz.zeroValue43
  t27 := Tryz.underlying43
  a27 := Tryz.isAgg43
  z27 := Tryz.sizeOf43
  v27 := Tryz.zeroValue43
  t29 := Tryz.underlying9
  a29 := Tryz.isAgg9
  z29 := Tryz.sizeOf9
  v29 := Tryz.zeroValue9
  t32 := Tryz.underlying172
  a32 := Tryz.isAgg172
  z32 := Tryz.sizeOf172
  v32 := Tryz.zeroValue172
  t35 := Tryz.underlying342
  a35 := Tryz.isAgg342
  z35 := Tryz.sizeOf342
  v35 := Tryz.zeroValue342
  t36 := Tryz.underlying343
  a36 := Tryz.isAgg343
  z36 := Tryz.sizeOf343
  v36 := Tryz.zeroValue343
  t41 := Tryz.underlying303
  a41 := Tryz.isAgg303
  z41 := Tryz.sizeOf303
  v41 := Tryz.zeroValue303
  t44 := Tryz.underlying315
  a44 := Tryz.isAgg315
  z44 := Tryz.sizeOf315
  v44 := Tryz.zeroValue315
  t46 := Tryz.underlying314
  a46 := Tryz.isAgg314
  z46 := Tryz.sizeOf314
  v46 := Tryz.zeroValue314
  t53 := Tryz.underlying353
  a53 := Tryz.isAgg353
  z53 := Tryz.sizeOf353
  v53 := Tryz.zeroValue353
  t57 := Tryz.underlying357
  a57 := Tryz.isAgg357
  z57 := Tryz.sizeOf357
  v57 := Tryz.zeroValue357
  t63 := Tryz.underlying359
  a63 := Tryz.isAgg359
  z63 := Tryz.sizeOf359
  v63 := Tryz.zeroValue359
  t64 := Tryz.underlying360
  a64 := Tryz.isAgg360
  z64 := Tryz.sizeOf360
  v64 := Tryz.zeroValue360
}

theorem sortsL (m : Nat) : AnyZ.SortsIn Tryz.prog sortedL_ren Fence.wide m :=
  ⟨fun blk off cap ss W hH hblk hsz => callsIn_wide.2 (AnyM.slices_Sort_string sortL blk off cap ss W hH hblk hsz),
   fun p cap W => callsIn_wide.2 (AnyM.slices_Sort_string_none sortL p cap W)⟩
theorem mergeSort_self {l : List (List UInt8)} (h : l.Pairwise (fun a b => leB a b = true)) : l.mergeSort leB = l := by
  have tr : ∀ a b c : List UInt8, leB a b = true → leB b c = true → leB a c = true := fun a b c h1 h2 => by simp only [leB, decide_eq_true_eq] at *; exact List.le_trans h1 h2
  have tot : ∀ a b : List UInt8, (leB a b || leB b a) = true := fun a b => by simp only [leB, Bool.or_eq_true, decide_eq_true_eq]; exact List.le_total a b
  refine List.Perm.eq_of_pairwise (le := fun a b => leB a b = true) (fun a b _ _ h1 h2 => ?_) (List.pairwise_mergeSort tr tot l) h (List.mergeSort_perm l leB)
  simp only [leB, decide_eq_true_eq] at h1 h2
  exact List.le_antisymm h1 h2
set_option maxHeartbeats 1000000 in
theorem names_b {w : World} {S : Nat → Prop} {q mb : Nat} {fv : Value} {L : List Fl} {d : Dk} (h : DiskIs w S q mb fv L d) :
    Calls Tryz.prog 98 #[.pointer (some ⟨q, 0, none⟩)] w fun e w' => ∃ v, e = .returned v ∧
      w'.ownsRow w.heap.size 9 1 v L.length (L.map fun x => encStr x.f.name) ∧ (v = .slice none 0 0 ↔ L = []) ∧ Below w.heap.size w w' := by
  obtain ⟨D0, hown, hsz, hd⟩ := h.look
  have hnd : (L.map fun x => x.f.name).Nodup := h.nodup
  have hperm := hd.perm hown (by rw [List.map_map]; exact hnd)
  rw [List.map_map] at hperm
  have hsorted : (L.map fun x => x.f.name).Pairwise (fun a b => leB a b = true) := by
    have h1 := h.sorted
    rw [← h.files, List.map_map] at h1
    exact h1.imp (fun {a b} hab => by simpa [leB] using List.le_of_lt hab)
  have hlen : L.length ≤ 4096 := by
    have h1 := h.few
    rw [← h.files, List.length_map] at h1
    exact h1
  have HP := Lib.hid (And.intro hperm (And.intro hsorted hlen))
  have c0 : w.cell? ⟨q, 0, none⟩ = some (.map (some mb)) := cell_of h.head rfl
  have H := Lib.hid h
  refine (callsIn_wide (n := 6)).1 ?_
  have hbl := hown.lt
  have hseq : SeqGives Fence.wide 2 Tryz.prog 195 #[.pointer (some ⟨w.heap.size, 0, none⟩)] encStr (fun ss => ss.Perm (strKeys D0)) (Maps.size D0) (w.alloc (.cells #[.map (some mb)] 118)) :=
    AnyZ.keys_gives (ρ := keysL_ren) { keysL with } Fence.wide _ trivial rfl (by omega) w.heap.size mb L.length D0 _ (by simp) (by simp) (by
      obtain ⟨es, clock, hb, Ft, hs, hD⟩ := hown
      exact ⟨es, clock, (Below.heap_alloc _ _ mb hbl).trans hb, Ft, hs, hD⟩)
  have cK : ∀ mb W, CallsIn Fence.wide 5 Tryz.prog 159 #[.map mb] W fun e w' => e = .returned (.func (.func 195) #[] #[.pointer (some ⟨W.heap.size, 0, none⟩)]) ∧ w' = W.alloc (.cells #[.map mb] 118) := fun mb W => AnyZ.keys_in keysL Fence.wide 5 trivial rfl mb W
  have cS := AnyZ.sorted_in sortedL Fence.wide 5 trivial trivial trivial trivial rfl (by omega) (sortsL _) (enters_of Tryz.func183 (by kernel_rfl) rfl) 195 #[.pointer (some ⟨w.heap.size, 0, none⟩)] trivial (enters_of Tryz.func195 (by kernel_rfl) rfl) _ _ (by rw [hsz]; unfold maxLen; omega) (by rw [hsz]; omega) _ hseq
  change CallsIn _ _ Tryz.prog 131 _ _ _ at cS
  have cN : CallsIn Fence.wide 5 Tryz.prog 94 #[.pointer (some ⟨q, 0, none⟩)] w fun e w' => e = .returned (.bool false) ∧ w' = w := callsIn_wide.2 (none_b H.out)
  have hfK : Fence.wide.fn 159 := trivial
  have hfS : Fence.wide.fn 131 := trivial
  have hfN : Fence.wide.fn 94 := trivial
  clear hseq hd hown h hperm hsorted
  refine callsIn_of_wp Tryz.func98 rfl trivial ?_ rfl
  simp only [Tryz.ntmps98, List.size_toArray, List.length_cons, List.length_nil, Nat.reduceAdd, Nat.reduceSub, Array.replicate_succ, Array.replicate_zero, List.push_toArray, List.append_toArray, List.nil_append, List.cons_append]
  gi_wp2_with (first
    | (gi_at_call 94; refine cN.mono ?_; rintro e w' ⟨rfl, rfl⟩)
    | (gi_at_call 159; refine (cK _ _).mono ?_; rintro e w' ⟨rfl, rfl⟩)
    | (gi_at_call 131; refine cS.mono ?_; rintro e w' ⟨v, ss, rfl, hS, hrow, hnil, hb⟩))
  go_ret
  have hpp : ss.Perm (L.map fun x => x.f.name) := hS.trans HP.out.1.symm
  have hms : (ss.mergeSort fun x y => decide (x ≤ y)) = L.map fun x => x.f.name := (mergeSort_of_perm hpp).trans (mergeSort_self HP.out.2.1)
  have hl : ss.length = L.length := by rw [hpp.length_eq, List.length_map]
  rw [hms, hl, List.map_map] at hrow
  refine ⟨v, rfl, ownsRow_base_a hrow (by simp), ?_, ((Below.refl _ _).alloc (Nat.le_refl _) _).trans (hb.mono (by simp))⟩
  rw [hnil, ← List.length_eq_zero_iff, ← List.length_eq_zero_iff, hl]
end Go.Proofs.YtlgcoaeddeiegaaGreat
/- Disk: the picks of a crash: is one below zero; the next one. -/
namespace Go.Proofs.YtlgcoaeddeiegaaGreat
open Go Go.Maps Go.RowKit

def intCells (l : List Int) : List Value := l.map fun x => .int .i64 x
def AllGe (l : List Int) : Prop := ∀ x ∈ l, 0 ≤ x
theorem AllGe.snoc {ps : List Int} {k : Nat} (h : k < ps.length) (ha : AllGe (ps.take k)) (hc : 0 ≤ ps[k]) : AllGe (ps.take (k + 1)) := by
  intro x hx
  rw [List.take_succ_eq_append_getElem h, List.mem_append, List.mem_singleton] at hx
  rcases hx with hx | rfl
  · exact ha x hx
  · exact hc
set_option maxHeartbeats 400000 in
theorem neg_b (x : Int) (w : World) : Calls Tryz.prog 96 #[.int .i64 x] w fun e w' => e = .returned (.bool (decide (x < 0))) ∧ w' = w := by
  go_enter Tryz.func96, Tryz.ntmps96
  go_wp2_with fail
  go_ret
  exact ⟨rfl, rfl⟩
set_option maxRecDepth 100000 in
set_option maxHeartbeats 400000 in
theorem indexInt_b {w : World} {oa : Option Addr} {n c : Nat} {ps : List Int} (hn : ps.length = n) (h : readAt w 1 (.slice oa n c) n (intCells ps)) (hm : n ≤ 1000000000) :
    Calls Tryz.prog 158 #[.slice oa n c, .func (.func 96) #[] #[]] w fun e w' => ∃ i : Int, e = .returned (.int .i64 i) ∧ (AllGe ps → i = -1) ∧ (¬ AllGe ps → 0 ≤ i) ∧ w' = w := by
  have H := Lib.hid h
  clear h
  go_enter Tryz.func158, Tryz.ntmps158
  go_wp2_with fail
  go_loop [8] (fun i => ∃ k : Nat, k ≤ n ∧ i = .int .i64 k ∧ AllGe (ps.take k)) (fun i => n - (intOf i).toNat)
  case atStart => exact ⟨0, Nat.zero_le _, rfl, fun x hx => by simp at hx⟩
  case round =>
    obtain ⟨k, hk, rfl, hge⟩ := hrel
    by_cases hlt : k < n
    · obtain ⟨g, off, rfl⟩ := H.out.addr (by omega)
      obtain ⟨x, hx⟩ : ∃ x, ps[k]'(by omega) = x := ⟨_, rfl⟩
      have hcx : w.cell? ⟨g, off + k, none⟩ = some (.int .i64 x) := by
        have h1 := H.out.cells (g := g) (off := off) rfl k (.int .i64 x) (by simp [intCells, ← hx])
        simpa [Go.WideShapes.add_plain] using h1
      have HX : Hid (0 ≤ x → AllGe (ps.take (k + 1))) := Lib.hid fun h0 => AllGe.snoc (by omega) hge (by rw [hx]; exact h0)
      have HY : Hid (x < 0 → ¬ AllGe ps) := Lib.hid fun h0 ha => by
        have := ha x (by rw [← hx]; exact List.getElem_mem _)
        omega
      clear hge hx
      by_cases h0 : x < 0
      · go_wp2_with (go_at_call 96; refine (neg_b _ _).mono ?_; rintro e w' ⟨rfl, rfl⟩)
        go_ret
        exact ⟨_, rfl, fun ha => absurd ha (HY.out h0), fun _ => by omega, rfl⟩
      · go_wp2_with (go_at_call 96; refine (neg_b _ _).mono ?_; rintro e w' ⟨rfl, rfl⟩)
        exact ⟨⟨k + 1, by omega, by simp, HX.out (by omega)⟩, by simp [intOf]; omega⟩
    · obtain rfl : k = n := by omega
      have HA : Hid (AllGe ps) := Lib.hid (by rwa [List.take_of_length_le (by omega)] at hge)
      clear hge
      go_wp2_with fail
      go_ret
      exact ⟨_, rfl, fun _ => rfl, fun h => absurd HA.out h, rfl⟩
set_option maxHeartbeats 400000 in
theorem containsInt_b {w : World} {oa : Option Addr} {n c : Nat} {ps : List Int} (hn : ps.length = n) (h : readAt w 1 (.slice oa n c) n (intCells ps)) (hm : n ≤ 1000000000) :
    Calls Tryz.prog 95 #[.slice oa n c, .func (.func 96) #[] #[]] w fun e w' => ∃ b : Bool, e = .returned (.bool b) ∧ (b = false ↔ AllGe ps) ∧ w' = w := by
  go_enter Tryz.func95, Tryz.ntmps95
  go_wp2_with fail
  refine (indexInt_b hn h hm).mono ?_
  rintro e w' ⟨i, rfl, h1, h2, rfl⟩
  obtain ⟨b, hb⟩ : ∃ b, decide ((0 : Int) ≤ i) = b := ⟨_, rfl⟩
  have HB : Hid (b = false ↔ AllGe ps) := Lib.hid (by
    rw [← hb]
    constructor
    · intro h3
      refine Classical.byContradiction fun h4 => ?_
      have := h2 h4
      simp at h3
      omega
    · intro h3
      have := h1 h3
      simp
      omega)
  clear h h1 h2
  go_wp2_with fail
  go_ret
  exact ⟨_, rfl, HB.out, rfl⟩
/-- the next pick, below 'of' -/
def nextP (of : Nat) : List Int → Nat × List Int
  | [] => (0, [])
  | p :: r => (p.toNat % of, r)
/-- block b holds the picks that are left -/
def PicksAt (w : World) (b Z : Nat) (ps : List Int) : Prop :=
  ∃ oa c, w.heap[b]? = some (.cells #[.slice oa ps.length c] 38 (0, 0)) ∧ readAt w 1 (.slice oa ps.length c) ps.length (intCells ps) ∧ (0 < ps.length → ∀ k, (Value.slice oa ps.length c).ownBlock = some k → k ≠ b ∧ k < Z)
theorem PicksAt.kept {w w' : World} {b Z : Nat} {ps : List Int} (h : PicksAt w b Z ps) (hk : ∀ k, k = b ∨ k < Z → w'.heap[k]? = w.heap[k]?) : PicksAt w' b Z ps := by
  obtain ⟨oa, c, h1, h2, h3⟩ := h
  exact ⟨oa, c, (hk b (.inl rfl)).trans h1, h2.kept (fun k _ hk' h0 => hk k (.inr (h3 h0 k hk').2)), h3⟩
theorem run_tailI (g off n cap : Nat) (W : World) : (Instr.slice 38 (.slice (some ⟨g, off, none⟩) (n + 1) cap) (some (.int .i64 1)) none none).run Tryz.prog W = .ok (.slice (if cap = 1 then some ⟨g, off, none⟩ else (some (⟨g, off, none⟩ : Addr)).map (·.add (1 * 1))) n (cap - 1)) W := by
  have hs : (sizeOf 3).run Tryz.prog W = .ok 1 W := by kernel_rfl
  have he : Tryz.prog.elem 38 = 3 := by kernel_rfl
  rw [run_slice_l (P := Tryz.prog) (w := W) 38 (some ⟨g, off, none⟩) (n + 1) cap (by rw [he]; exact Tryz.underlying38) .i64 1 (by omega) (by omega), he, hs]
  simp [Result.andThen, sliced]
set_option maxRecDepth 100000 in
set_option maxHeartbeats 400000 in
theorem next_b {w : World} {b Z : Nat} {ps : List Int} (h : PicksAt w b Z ps) (hge : AllGe ps) (of : Nat) (h1 : 0 < of) (h2 : of ≤ 1000000000) (hp : ∀ x ∈ ps, x ≤ 9223372036854775807) :
    Calls Tryz.prog 97 #[.int .i64 of, .pointer (some ⟨b, 0, none⟩)] w fun e w' => e = .returned (.int .i64 (nextP of ps).1) ∧ PicksAt w' b Z (nextP of ps).2 ∧ Only (fun k => k = b) w w' := by
  obtain ⟨oa, c, hb, hrow, hne⟩ := h
  cases ps with
  | nil =>
    have hnl : (((0 : Nat) : Int) == 0) = true := rfl
    have HB := Lib.hid (And.intro hb (And.intro hrow hne))
    have c0 : w.cell? ⟨b, 0, none⟩ = some (.slice oa 0 c) := cell_of hb rfl
    clear hb hrow hne
    go_enter Tryz.func97, Tryz.ntmps97
    go_wp2_with fail
    go_ret
    exact ⟨rfl, ⟨oa, c, HB.out.1, HB.out.2.1, HB.out.2.2⟩, Only.refl _ _⟩
  | cons p rest =>
    obtain ⟨g, off, rfl⟩ := hrow.addr (by simp)
    have f0 : w.cell? ⟨g, off, none⟩ = some (.int .i64 p) := by
      have := hrow.cells (g := g) (off := off) rfl 0 (.int .i64 p) rfl
      simpa [Go.WideShapes.add_plain] using this
    have hcap : rest.length + 1 ≤ c := hrow.cap
    have hsub := hrow.tail
    obtain ⟨oa', hfv⟩ : ∃ oa' : Option Addr, oa' = if c = 1 then some ⟨g, off, none⟩ else (some (⟨g, off, none⟩ : Addr)).map (·.add (1 * 1)) := ⟨_, rfl⟩
    obtain ⟨c', hc'⟩ : ∃ c', c' = c - 1 := ⟨_, rfl⟩
    have hown : (Value.slice oa' rest.length c').ownBlock = some g := by rw [hfv]; exact sub_own _ _ _ _ _ _
    obtain ⟨n1, hn1⟩ : ∃ n1, n1 = rest.length + 1 := ⟨_, rfl⟩
    have hsl : ∀ W : World, (Instr.slice 38 (.slice (some ⟨g, off, none⟩) n1 c) (some (.int .i64 1)) none none).run Tryz.prog W = .ok (.slice oa' rest.length c') W := fun W => by rw [hfv, hn1, hc']; exact run_tailI g off rest.length c W
    have hn0 : ((n1 : Int) == 0) = false := by simp; omega
    have hn2 : (0 : Int) < (n1 : Int) := by omega
    have hn3 : (1 : Int) ≤ (n1 : Int) := by omega
    rw [List.length_cons, ← hn1] at hb
    have c0 : w.cell? ⟨b, 0, none⟩ = some (.slice (some ⟨g, off, none⟩) n1 c) := cell_of hb rfl
    have z0 : w.frozen? ⟨b, 0, none⟩ = false := free_of hb _
    have hgb : g ≠ b ∧ g < Z := hne (by simp) g rfl
    have HSUB : Hid (readAt w 1 (.slice oa' rest.length c') rest.length (intCells rest)) := Lib.hid (by
      rw [hfv, hc']
      exact hsub)
    have HB := Lib.hid (And.intro hb (And.intro hown hgb))
    have hp0 : 0 ≤ p := hge p (by simp)
    obtain ⟨m, hm⟩ : ∃ m : Nat, p = (m : Int) := ⟨p.toNat, by omega⟩
    have hmx := hp p (by simp)
    subst hm
    have HL : Hid (g < w.heap.size) := Lib.hid (hrow.lt (by simp) g rfl)
    clear hrow hsub hfv hc' hown hn1 hb hne hcap hge hp hp0 hgb
    have hof : (of : Int) ≠ 0 := by omega
    go_enter Tryz.func97, Tryz.ntmps97
    go_wp2_with fail
    go_ret
    obtain ⟨w1, hw1⟩ : ∃ w1 : World, w1 = w.setCell ⟨b, 0, none⟩ (.slice oa' rest.length c') := ⟨_, rfl⟩
    have ho : Only (fun k => k = b) w w1 := by rw [hw1]; exact only_setCell (fun k => k = b) w b 0 _ rfl
    have hb1 : w1.heap[b]? = some (.cells #[.slice oa' rest.length c'] 38 (0, 0)) := by rw [hw1]; exact heap_setCell_here _ HB.out.1
    rw [← hw1]
    refine ⟨?_, ⟨oa', c', hb1, HSUB.out.kept (fun k _ hk _ => ?_), fun _ k hk => ?_⟩, ho⟩
    · show Ending.returned (.int .i64 ((m : Int) % (of : Int))) = _
      simp [nextP]
    · rw [HB.out.2.1] at hk
      simp only [Option.some.injEq] at hk
      subst hk
      exact ho.block _ HL.out HB.out.2.2.1
    · have hk' : (Value.slice oa' rest.length c').ownBlock = some k := hk
      rw [HB.out.2.1] at hk'
      simp only [Option.some.injEq] at hk'
      rw [← hk']; exact HB.out.2.2
theorem next_v {w : World} {b Z : Nat} {ps : List Int} (h : PicksAt w b Z ps) (hge : AllGe ps) (of : Nat) (h1 : 0 < of) (h2 : of ≤ 1000000000) (hp : ∀ x ∈ ps, x ≤ 9223372036854775807) {v : Int} (hv : v = (of : Int)) :
    Calls Tryz.prog 97 #[.int .i64 v, .pointer (some ⟨b, 0, none⟩)] w fun e w' => e = .returned (.int .i64 (nextP of ps).1) ∧ PicksAt w' b Z (nextP of ps).2 ∧ Only (fun k => k = b) w w' := by
  subst hv
  exact next_b h hge of h1 h2 hp
end Go.Proofs.YtlgcoaeddeiegaaGreat
/- Disk: what a crash leaves. -/
namespace Go.Proofs.YtlgcoaeddeiegaaGreat
open Go Go.Maps Go.RowKit
open Go.Proofs (encStr)

def keepP (f : F0) (ps : List Int) : Bool × List Int := if f.there && f.named then (true, ps) else (decide ((nextP 2 ps).1 ≠ 0), (nextP 2 ps).2)
def moreP (f : F0) (ps : List Int) : Nat × List Int := if f.there && decide (f.lasts < f.bytes.length) then nextP (f.bytes.length - f.lasts + 1) ps else (0, ps)
def cutF (f : F0) (k : Nat) : F0 := ⟨f.name, f.bytes.take (f.lasts + k), f.lasts + k, true, true⟩
def crashStep (s : List F0 × List Int) (f : F0) : List F0 × List Int :=
  if (keepP f s.2).1 = false then (s.1, (keepP f s.2).2) else (s.1 ++ [cutF f (moreP f (keepP f s.2).2).1], (moreP f (keepP f s.2).2).2)
def crashTo (l : List F0) (ps : List Int) : List F0 × List Int := l.foldl crashStep ([], ps)
def Dk.crash (d : Dk) (ps : List Int) : Dk := ⟨(crashTo d.files ps).1, [], 0⟩
def PicksOk (ps : List Int) : Prop := ∀ x ∈ ps, 0 ≤ x ∧ x ≤ 9223372036854775807
theorem nextP_ok (of : Nat) {ps : List Int} (h : PicksOk ps) : PicksOk (nextP of ps).2 := by
  cases ps with
  | nil => exact h
  | cons p r => exact fun x hx => h x (List.mem_cons_of_mem _ hx)
theorem keepP_ok (f : F0) {ps : List Int} (h : PicksOk ps) : PicksOk (keepP f ps).2 := by
  unfold keepP
  split
  · exact h
  · exact nextP_ok _ h
theorem moreP_ok (f : F0) {ps : List Int} (h : PicksOk ps) : PicksOk (moreP f ps).2 := by
  unfold moreP
  split
  · exact nextP_ok _ h
  · exact h
theorem nextP_lt (of : Nat) (ps : List Int) (h : 0 < of) : (nextP of ps).1 < of := by
  cases ps with
  | nil => exact h
  | cons p r => exact Nat.mod_lt _ h
theorem moreP_le (f : F0) (ps : List Int) (h : f.lasts ≤ f.bytes.length) : f.lasts + (moreP f ps).1 ≤ f.bytes.length := by
  unfold moreP
  split
  · have := nextP_lt (f.bytes.length - f.lasts + 1) ps (by omega)
    omega
  · simpa using h
theorem crashTo_snoc (l : List F0) (f : F0) (ps : List Int) : crashTo (l ++ [f]) ps = crashStep (crashTo l ps) f := by simp [crashTo]
theorem crashStep_names (s : List F0 × List Int) (f : F0) : ∀ g ∈ (crashStep s f).1, g ∈ s.1 ∨ g.name = f.name := fun g hg => by
  unfold crashStep at hg
  split at hg
  · exact .inl hg
  · rcases List.mem_append.1 hg with h | h
    · exact .inl h
    · simp only [List.mem_singleton] at h
      exact .inr (by rw [h]; rfl)
theorem crashTo_names (ps : List Int) : ∀ (l : List F0) (s : List F0 × List Int) (g : F0), g ∈ (l.foldl crashStep s).1 → g ∈ s.1 ∨ ∃ f ∈ l, g.name = f.name
  | [], s, g, hg => .inl hg
  | f :: r, s, g, hg => by
    rcases crashTo_names ps r (crashStep s f) g hg with h | ⟨f', hf', he⟩
    · rcases crashStep_names s f g h with h | h
      · exact .inl h
      · exact .inr ⟨f, by simp, h⟩
    · exact .inr ⟨f', by simp [hf'], he⟩
theorem DiskIs.lookup1_some {w : World} {S : Nat → Prop} {q mb : Nat} {fv : Value} {L : List Fl} {d : Dk} (h : DiskIs w S q mb fv L d) {x : Fl} (hx : x ∈ L) {nm : ByteArray} (hs : nm.size ≤ maxLen) (hn : x.f.name = nm.data.toList) :
    (Instr.lookup 118 (.map (some mb)) (.string nm) false).run Tryz.prog w = .ok (.pointer (some ⟨x.blk, 0, none⟩)) w := by
  obtain ⟨D, ho, hsz, hd⟩ := h.look
  have hz : (zeroValue 175).run Tryz.prog w = .ok (.pointer none) w := by kernel_rfl
  obtain ⟨v, ps, hrun, hv⟩ := ho.lookup (t := 118) (string_keyed Tryz.underlying9) Tryz.underlying118 hz ptrElem_nil (WideMaps.keyOf_string_mk (P := Tryz.prog) Tryz.underlying9 hs)
  have hm : (x.f.name, x.blk) ∈ L.map fun x => (x.f.name, x.blk) := List.mem_map_of_mem (f := fun x => (x.f.name, x.blk)) hx
  have hg := hd.get _ hm .nil
  rw [← hn] at hv
  rw [hg] at hv
  obtain rfl := ptrElem_inv hv
  exact hrun
/-- both disks, beside the picks -/
structure CrashPre (w3 wr : World) (S : Nat → Prop) (q mb : Nat) (fv : Value) (L : List Fl) (d : Dk) (pb Z : Nat) (fl : List F0) : Prop where
  old : DiskIs wr S q mb fv L d
  only : Only (fun k => k = pb ∨ k = pb + 1) w3 wr
  new : ∃ Lo, DiskIs wr (fun k => (k = pb + 2 ∨ k = pb + 1 ∨ w3.heap.size ≤ k) ∧ k < wr.heap.size) (pb + 2) (pb + 1) (.slice none 0 0) Lo ⟨fl, [], 0⟩
  low : ∀ k, S k → k < Z
  z : Z < pb
  size : pb + 3 ≤ w3.heap.size
theorem CrashPre.pick {w3 wr wx : World} {S : Nat → Prop} {q mb : Nat} {fv : Value} {L : List Fl} {d : Dk} {pb Z : Nat} {fl : List F0} (h : CrashPre w3 wr S q mb fv L d pb Z fl) (ho : Only (fun k => k = pb) wr wx) : CrashPre w3 wx S q mb fv L d pb Z fl where
  old := h.old.only ho (fun k hk he => by
    have h1 := h.low k hk
    have h2 := h.z
    omega)
  only := h.only.trans ho (fun i _ hi => .inl hi)
  new := by
    obtain ⟨Lo, hL⟩ := h.new
    have h1 := h.size
    exact ⟨Lo, (hL.only ho (fun k hk he => by have := hk.1; omega)).wider (fun k hk => ⟨hk.1, Nat.lt_of_lt_of_le hk.2 ho.size⟩) (fun k hk => hk.2)⟩
  low := h.low
  z := h.z
  size := h.size
theorem CrashPre.drew {w3 wr : World} {S : Nat → Prop} {q mb : Nat} {fv : Value} {L : List Fl} {d : Dk} {pb Z : Nat} {fl : List F0} (h : CrashPre w3 wr S q mb fv L d pb Z fl) : CrashPre w3 wr.drew S q mb fv L d pb Z fl := h.pick (only_drew (Only.refl _ _))
/-- a file is put into the new disk -/
theorem CrashPre.add {w3 wr w5 w6 : World} {S : Nat → Prop} {q mb : Nat} {fv : Value} {L : List Fl} {d : Dk} {pb Z : Nat} {fl : List F0} (h : CrashPre w3 wr S q mb fv L d pb Z fl) {g : F0} {v : Value} {D : DataW Unit} {n' : Nat} {Lo : List Fl}
    (hLo : DiskIs wr (fun k => (k = pb + 2 ∨ k = pb + 1 ∨ w3.heap.size ≤ k) ∧ k < wr.heap.size) (pb + 2) (pb + 1) (.slice none 0 0) Lo ⟨fl, [], 0⟩) (hd : Dic D (Lo.map fun x => (x.f.name, x.blk)))
    (hnb : NewBytes wr w5 v g.bytes) (hg : (w5.alloc (.cells #[v, .int .i64 g.lasts, .bool g.there, .bool g.named] 179)).grownBy w6 (some (pb + 1)))
    (hm : w6.ownsMap Tryz.prog 9 ptrElem (pb + 1) n' (D.put (.string g.name) (.lit (.int .i64 w5.heap.size)))) (hl : g.lasts ≤ g.bytes.length) (hsz : g.bytes.length ≤ 16777216) (hnm : nameOk g.name = true) (hlt : ∀ f ∈ fl, f.name < g.name) (hfew : fl.length < 4096) :
    CrashPre w3 w6 S q mb fv L d pb Z (fl ++ [g]) := by
  obtain ⟨hb, hown, hbl⟩ := hnb
  obtain ⟨w5a, hw5a⟩ : ∃ w5a : World, w5a = w5.alloc (.cells #[v, .int .i64 g.lasts, .bool g.there, .bool g.named] 179) := ⟨_, rfl⟩
  rw [← hw5a] at hg
  have hc5 : w5a.heap[w5.heap.size]? = some (.cells #[v, .int .i64 g.lasts, .bool g.there, .bool g.named] 179 (0, 0)) := by rw [hw5a]; exact alloc_cells _ _ _
  have hs5 : w5a.heap.size = w5.heap.size + 1 := by rw [hw5a]; simp
  have ho1 : Only (fun k => k = pb + 1) wr w5 := Only.of_below hbl (Nat.le_refl _) _
  have ho2 : Only (fun k => k = pb + 1) wr w5a := ho1.trans (by rw [hw5a]; exact only_alloc (fun k => k = pb + 1) _ _) (fun _ _ h => h)
  have ho : Only (fun k => k = pb + 1) wr w6 := ho2.trans (Only.of_grown (S := fun k => k = pb + 1) hg (fun k hk => by simp at hk; exact hk.symm)) (fun _ _ h => h)
  have hmb : pb + 1 < wr.heap.size := hLo.low (pb + 1) (hLo.foot (pb + 1) (by simp [diskBlocks]))
  have hsz1 := hbl.size
  have hsz2 := hg.size
  have hfl : Lo.map (·.f) = fl := hLo.files
  have hkeep : ∀ k, k < w5a.heap.size → k ≠ pb + 1 → w6.heap[k]? = w5a.heap[k]? := fun k h1 h2 => hg.block k h1 (by simp; omega)
  have hrow : rowAt w6 5 1 v g.bytes.length (byteCells g.bytes) := by
    have h1 : rowAt w5a 5 1 v g.bytes.length (byteCells g.bytes) := hb.kept (fun k hk => by rw [hw5a]; exact Below.heap_alloc _ _ k (hb.lt k hk))
    exact h1.kept (fun k hk => hkeep k (h1.lt k hk) (by have := hown k hk; omega))
  have h6 := DiskIs.file_add (A := Lo) (B := []) (x' := ⟨g, w5.heap.size, v⟩) (fs := fl ++ [g]) (by simpa using hLo) ho
    ⟨(hkeep w5.heap.size (by omega) (by omega)).trans hc5, hrow, hl, hsz⟩ hm
    (hd.put g.name w5.heap.size (fun f => by
      simp only [List.map_append, List.map_cons, List.map_nil, List.mem_append, List.mem_cons, List.not_mem_nil, or_false]
      exact or_comm) (fun f hf => by
      obtain ⟨y, hy, rfl⟩ := List.mem_map.1 hf
      have h1 := hlt y.f (by rw [← hfl]; exact List.mem_map_of_mem hy)
      exact fun he => by
        have he' : y.f.name = g.name := he
        rw [he'] at h1
        exact List.lt_irrefl _ h1))
    (fun k hk => by
      simp only [Fl.blocks, List.mem_cons, Option.mem_toList] at hk
      rcases hk with rfl | hk
      · show wr.heap.size ≤ w5.heap.size ∧ w5.heap.size < w6.heap.size
        exact ⟨hsz1, by omega⟩
      · have h1 := hown k hk
        have h2 := hb.lt k hk
        exact ⟨h1, by omega⟩)
    (by
      cases hv : v.ownBlock with
      | none => simp [Fl.blocks, hv]
      | some k =>
        have h2 := hb.lt k hv
        simp [Fl.blocks, hv]
        omega)
    (by simp [hfl]) (by
      rw [List.map_append, List.pairwise_append]
      refine ⟨hLo.sorted, by simp, fun a ha b hb' => ?_⟩
      obtain ⟨y, hy, rfl⟩ := List.mem_map.1 ha
      simp only [List.map_cons, List.map_nil, List.mem_singleton] at hb'
      rw [hb']
      exact hlt y hy) hnm hfew
  have h1 := h.size
  exact {
    old := h.old.only ho (fun k hk he => by
      have h1 := h.low k hk
      have h2 := h.z
      omega)
    only := h.only.trans ho (fun i _ hi => .inr hi)
    new := ⟨_, h6.wider (fun k hk => by
      have h3 := h.only.size
      rcases hk with hk | hk
      · exact ⟨hk.1, Nat.lt_of_lt_of_le hk.2 ho.size⟩
      · exact ⟨by omega, hk.2⟩) (fun k hk => hk.2)⟩
    low := h.low
    z := h.z
    size := h.size }
theorem take_files {L : List Fl} {d : Dk} {j : Nat} (hf : L.map (·.f) = d.files) (hj : j < L.length) : d.files.take (j + 1) = d.files.take j ++ [L[j].f] := by
  rw [← hf, List.take_succ_eq_append_getElem (by simpa using hj)]
  simp
theorem keep_eq (P : List Int) : ((((nextP 2 P).1 : Nat) : Int) == 0) = !(decide ((nextP 2 P).1 ≠ 0)) := by
  by_cases h : (nextP 2 P).1 = 0 <;> simp [h]
theorem add_only {wr w5 w6 : World} {b : Nat} {v : Value} {l : List UInt8} {o : Obj} (hnb : NewBytes wr w5 v l) (hg : (w5.alloc o).grownBy w6 (some b)) : Only (fun k => k = b) wr w6 :=
  ((Only.of_below hnb.2.2 (Nat.le_refl _) _).trans (only_alloc (fun k => k = b) w5 o) (fun _ _ h => h)).trans (Only.of_grown (S := fun k => k = b) hg (fun k hk => by simp at hk; exact hk.symm)) (fun _ _ h => h)
theorem crashTo_length (ps : List Int) : ∀ (l : List F0) (s : List F0 × List Int), (l.foldl crashStep s).1.length ≤ s.1.length + l.length
  | [], s => by simp
  | f :: r, s => by
    have h1 := crashTo_length ps r (crashStep s f)
    have h2 : (crashStep s f).1.length ≤ s.1.length + 1 := by
      unfold crashStep
      split
      · simp
      · simp
    simp only [List.foldl_cons, List.length_cons]
    omega
theorem crash_lt {d : Dk} {j : Nat} {f : F0} {ps : List Int} (hs : (d.files.map (·.name)).Pairwise (· < ·)) (ht : d.files.take (j + 1) = d.files.take j ++ [f]) : ∀ g ∈ (crashTo (d.files.take j) ps).1, g.name < f.name := fun g hg => by
  rcases crashTo_names ps _ _ g hg with h | ⟨f', hf', he⟩
  · cases h
  · have h1 : ((d.files.take (j + 1)).map (·.name)).Pairwise (· < ·) := hs.sublist ((List.take_sublist _ _).map _)
    rw [ht, List.map_append, List.pairwise_append] at h1
    rw [he]
    exact h1.2.2 _ (List.mem_map_of_mem hf') _ (by simp)
theorem run_take (oa : Option Addr) (N c E : Nat) (h2 : E ≤ c) (h0 : oa.map (fun x => x.add 0) = oa) (W : World) : (Instr.slice 39 (.slice oa N c) none (some (.int .i64 (E : Int))) none).run Tryz.prog W = .ok (.slice oa E c) W := by
  have hs : (sizeOf 5).run Tryz.prog W = .ok 1 W := by kernel_rfl
  have he : Tryz.prog.elem 39 = 5 := by kernel_rfl
  rw [run_slice_h (P := Tryz.prog) (w := W) 39 oa N c (by rw [he]; exact Tryz.underlying39) .i64 E (by omega) (by omega), he, hs]
  simp [Result.andThen, sliced, h0]
theorem step_update {H : Type} {P : Program} (w : World) {ops : Array Oper} {o : Oper} {a : Act} {K : Act → World → Prop} {Q : Exit → Act → World → Prop} {E : Prop}
    (hg : o.guard = none) (m x v : Operand) (t : TypeId) (hop : o.op = Op.mapUpdate t m x v)
    (k e : TypeId) (K0 : Keyed P k) (ht : P.underlying t = some (.map k e)) (R : Value → Option (DataW H × List MemPlace)) (b n : Nat) (D : DataW H)
    (hm : a.eval m = .map (some b)) (hown : w.ownsMap P k R b n D) (hn : n < maxLen) (key val : Value) (kl : Lit) (hx : a.eval x = key) (hv : a.eval v = val) (hkey : keyOf P k key = some kl)
    (d : DataW H) (ps : List MemPlace) (hval : R val = some (d, ps))
    (hK : ∀ w', w'.ownsMap P k R b (n + 1) (D.put kl d) → w.grownBy w' (some b) → K (a.put o.dst undef) w') :
    if Region.wanted o (yielded ops a.tmps) = true then Oper.wp P o a w K Q else E := by
  have hw : Region.wanted o (yielded ops a.tmps) = true := by simp [Region.wanted, hg]
  rw [if_pos hw]
  obtain ⟨w', hrun, r1, r2⟩ := hown.update K0 ht hn hkey hval
  unfold Oper.wp
  simp [execOp, hop, hm, hx, hv, hrun, Result.andThen]
  exact hK w' r1 r2
/-- what stands at the head of each round -/
structure CrashInv (w3 wr : World) (S : Nat → Prop) (q mb : Nat) (fv : Value) (L : List Fl) (d : Dk) (pb Z j : Nat) (ps : List Int) : Prop where
  pre : CrashPre w3 wr S q mb fv L d pb Z (crashTo (d.files.take j) ps).1
  picks : PicksAt wr pb Z (crashTo (d.files.take j) ps).2
  ok : PicksOk (crashTo (d.files.take j) ps).2
def CrashIs (w : World) (d : Dk) (ps : List Int) (e : Ending) (w' : World) : Prop :=
  (¬ AllGe ps ∧ e = .returned (.tuple #[.pointer none, .int .i64 2]) ∧ Below w.heap.size w w') ∨
  (AllGe ps ∧ ∃ q, e = .returned (.tuple #[.pointer (some ⟨q, 0, none⟩), .int .i64 0]) ∧ DiskAt w' (fun k => w.heap.size ≤ k ∧ k < w'.heap.size) q (d.crash ps) ∧ Below w.heap.size w w')
end Go.Proofs.YtlgcoaeddeiegaaGreat
