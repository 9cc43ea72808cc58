/- The texts Pzf, Pzh, Eq, Er, Es, Et, Eu, Ev in one. -/
import Derived.Test.YtlgcoaeddeiegaaGreatV15
import Derived.Test.YtlgcoaeddeiegaaGreatV10
/- partlog: what stands behind an Append; State; a log's part of a disk that has none of it. -/
namespace Go.Proofs.YtlgcoaeddeiegaaGreat
open Go Go.RowKit
attribute [local go_sem] Oper.semAt_some

theorem hexd_okB : ∀ d : Nat, d < 16 → okByte (hexd d) = true := by decide
theorem hex_okB : ∀ n b, (hex n b).all okByte = true
  | 0, _ => rfl
  | n + 1, b => by
    rw [hex, List.all_append, hex_okB n]
    simp [hexd_okB (b % 16) (by omega)]
theorem sname_nameOk {log : ByteArray} (hlog : loggedB log.data.toList = true) (b : Nat) : nameOk (sname log b) = true := by
  have hl := loggedB_len _ hlog
  have h1 : log.data.toList.all okByte = true := by
    unfold loggedB lowB at hlog
    simp only [Bool.and_eq_true] at hlog
    rw [List.all_eq_true] at *
    intro x hx
    have := hlog.1.1 x hx
    unfold okByte
    simp only [Bool.and_eq_true, decide_eq_true_eq] at this
    have h2 : decide (97 ≤ x.toNat) = true := decide_eq_true (by have := this.1; exact UInt8.le_iff_toNat_le.1 this)
    have h3 : decide (x.toNat ≤ 122) = true := decide_eq_true (by have := this.2; exact UInt8.le_iff_toNat_le.1 this)
    rw [h2, h3]
    rfl
  have h2 : (sname log b).all okByte = true := by
    unfold sname
    rw [List.all_append, List.all_cons, h1, hex_okB]
    rfl
  have h3 : (sname log b).length = log.data.toList.length + 15 := by
    unfold sname
    rw [List.length_append, List.length_cons, hex_length]
  unfold nameOk
  rw [h2, decide_eq_true (show 1 ≤ (sname log b).length by omega), decide_eq_true (show (sname log b).length ≤ 32 by omega)]
  rfl
theorem dies_dead (g : Lg) {e : Int} (h : e ≠ 0) : (g.dies e).dead = true := by unfold Lg.dies; rw [if_neg h]
theorem dies_segs (g : Lg) (e : Int) : (g.dies e).segs = g.segs := by unfold Lg.dies; split <;> rfl
theorem LgFitQ.dies {log : ByteArray} {g : Lg} {d : Dk} (h : LgFitQ log g d) (e : Int) : LgFitQ log (g.dies e) d := fun s hs => h s (by rwa [dies_segs] at hs)
/-- what stands behind an Append -/
theorem appendT_law {log : ByteArray} {roll : Nat} {g : Lg} {d : Dk} {l : List Rc} (hlog : loggedB log.data.toList = true) (hroll : 1 ≤ roll) (h : LgOk g) (hq : LgFitQ log g d) (hf : g.dead = false → LgFit log g d) (hs : (d.files.map (·.name)).Pairwise (· < ·)) :
    LgOk (g.appendT log roll d l).2.1 ∧ LgFitQ log (g.appendT log roll d l).2.1 (g.appendT log roll d l).2.2 ∧ ((g.appendT log roll d l).2.1.dead = false → LgFit log (g.appendT log roll d l).2.1 (g.appendT log roll d l).2.2) := by
  unfold Lg.appendT
  split
  · exact ⟨h, hq, hf⟩
  · rename_i h0
    split
    · exact ⟨h, hq, hf⟩
    · rename_i h1
      split
      · exact ⟨h, hq, hf⟩
      · rename_i h2
        have h1 : (fitsT l).2 = 0 := Classical.byContradiction h1
        have hd : g.dead = false := by simpa using h0
        have hl : 1 ≤ l.length := by
          cases hll : l with
          | nil => rw [hll] at h1; cases h1
          | cons => simp
        have key : ∀ (g1 : Lg) (d1 : Dk), LgOk g1 → LgFit log g1 d1 → g1.fin = g.fin → LgOk ((g1.addT log d1 l).2.1.dies (g1.addT log d1 l).1) ∧ LgFitQ log ((g1.addT log d1 l).2.1.dies (g1.addT log d1 l).1) (g1.addT log d1 l).2.2 ∧ (((g1.addT log d1 l).2.1.dies (g1.addT log d1 l).1).dead = false → LgFit log ((g1.addT log d1 l).2.1.dies (g1.addT log d1 l).1) (g1.addT log d1 l).2.2) := fun g1 d1 k1 k2 k3 => by
          have hgood := (fits_good (base := (g1.fin : Int)) h1 (by omega) (by rw [k3]; omega)).1
          obtain ⟨a1, a2, a3⟩ := add_law hlog k1 k2 hgood (sname_nameOk hlog _)
          refine ⟨a1.died _, a3.dies _, fun hdd => ?_⟩
          by_cases he : (g1.addT log d1 l).1 = 0
          · unfold Lg.dies
            rw [if_pos he]
            exact a2 he
          · rw [dies_dead _ he] at hdd
            cases hdd
        dsimp only
        unfold Lg.pushT
        split
        · rename_i h3
          have hne : g.lbs ≠ [] := fun e => by
            rw [e] at h3
            have : roll ≤ 0 := h3
            omega
          obtain ⟨a1, a2, a3⟩ := roll_law h (hf hd) (create_sorted _ (by rw [sync_names]; exact hs)) hne (by omega)
          split
          · rename_i h4
            refine ⟨a1.died _, a2.toQ.dies _, fun hdd => ?_⟩
            rw [dies_dead _ h4] at hdd
            cases hdd
          · exact key _ _ a1 a2 a3
        · exact key _ _ h (hf hd) rfl
theorem syncT_law {log : ByteArray} {g : Lg} {d : Dk} (h : LgOk g) (hq : LgFitQ log g d) (hf : g.dead = false → LgFit log g d) :
    LgOk (g.syncT log d).2.1 ∧ LgFitQ log (g.syncT log d).2.1 (g.syncT log d).2.2 ∧ ((g.syncT log d).2.1.dead = false → LgFit log (g.syncT log d).2.1 (g.syncT log d).2.2) := by
  have k := sync_keeps d (sname log g.lb)
  unfold Lg.syncT
  split
  · exact ⟨h, hq, hf⟩
  · rename_i h0
    have hd : g.dead = false := by simpa using h0
    split
    · exact ⟨h.died 1, k.fitQ hq, fun h => by cases h⟩
    · exact ⟨h.standsFin, k.fitQ hq, fun _ => k.fit (hf hd)⟩
/-- a state, as a value -/
def stateV (g : Lg) : Value := .agg #[.int .i64 (g.begin : Int), .int .i64 (g.fin : Int), .int .i64 (g.stands : Int), .int .i64 (g.segs.length : Int), .bool g.dead]
set_option maxRecDepth 100000 in
set_option maxHeartbeats 2000000 in
theorem logState_b {w : World} {T : Nat → Prop} {lp q : Nat} {log : ByteArray} {roll step : Nat} {g : Lg} {G : List Sg} {a : Sg} {pv : Value} (hm : LogM w T lp q log roll step g G a pv) :
    Calls Tryz.prog 25 #[.pointer (some ⟨lp, 0, none⟩)] w fun e w' => e = .returned (stateV g) ∧ Below w.heap.size w w' := by
  obtain ⟨w1, hw1⟩ : ∃ W : World, W = w.alloc (.cells #[.int .i64 0, .int .i64 0, .int .i64 0, .int .i64 0, .bool false] 60) := ⟨_, rfl⟩
  obtain ⟨b, hb⟩ : ∃ b, b = w.heap.size := ⟨_, rfl⟩
  have gb : w1.heap[b]? = some (.cells #[.int .i64 0, .int .i64 0, .int .i64 0, .int .i64 0, .bool false] 60 (0, 0)) := by rw [hw1, hb]; exact alloc_cells _ _ _
  have hb1 : Below w.heap.size w w1 := by rw [hw1]; exact (Below.refl _ _).alloc (Nat.le_refl _) _
  have hm1 := hm.later hb1
  have HN := Lib.hid (noneLog_b hm1)
  have hsg : (g.segs.length : Int) = ((G.length + 1 : Nat) : Int) := by rw [hm.segs]; simp
  unfold stateV
  rw [hsg]
  obtain ⟨n, hn⟩ : ∃ n : Int, n = ((G.length + 1 : Nat) : Int) := ⟨_, rfl⟩
  have hh := hm1.head
  unfold logHead at hh
  rw [← hn] at hh ⊢
  have k0 : w1.cell? ⟨lp, 0, none⟩ = some (.int .i64 (g.begin : Int)) := cell_of hh rfl
  have k1 : w1.cell? ⟨lp, 1, none⟩ = some (.int .i64 (g.fin : Int)) := cell_of hh rfl
  have k2 : w1.cell? ⟨lp, 2, none⟩ = some (.int .i64 (g.stands : Int)) := cell_of hh rfl
  have k3 : w1.cell? ⟨lp, 3, none⟩ = some (.int .i64 n) := cell_of hh rfl
  have k4 : w1.cell? ⟨lp, 4, none⟩ = some (.bool g.dead) := cell_of hh rfl
  have b0 : w1.cell? ⟨b, 0, none⟩ = some (.int .i64 0) := cell_of gb rfl
  have b1 : w1.cell? ⟨b, 1, none⟩ = some (.int .i64 0) := cell_of gb rfl
  have b2 : w1.cell? ⟨b, 2, none⟩ = some (.int .i64 0) := cell_of gb rfl
  have b3 : w1.cell? ⟨b, 3, none⟩ = some (.int .i64 0) := cell_of gb rfl
  have b4 : w1.cell? ⟨b, 4, none⟩ = some (.bool false) := cell_of gb rfl
  have z0 : w1.frozen? ⟨b, 0, none⟩ = false := free_of gb _
  have z1 : w1.frozen? ⟨b, 1, none⟩ = false := free_of gb _
  have z2 : w1.frozen? ⟨b, 2, none⟩ = false := free_of gb _
  have z3 : w1.frozen? ⟨b, 3, none⟩ = false := free_of gb _
  have z4 : w1.frozen? ⟨b, 4, none⟩ = false := free_of gb _
  have H := Lib.hid (And.intro gb (And.intro hb1 hb))
  obtain ⟨x0, hx0⟩ : ∃ x, x = (g.begin : Int) := ⟨_, rfl⟩
  obtain ⟨x1, hx1⟩ : ∃ x, x = (g.fin : Int) := ⟨_, rfl⟩
  obtain ⟨x2, hx2⟩ : ∃ x, x = (g.stands : Int) := ⟨_, rfl⟩
  obtain ⟨x4, hx4⟩ : ∃ x, x = g.dead := ⟨_, rfl⟩
  rw [← hx0] at k0 ⊢
  rw [← hx1] at k1 ⊢
  rw [← hx2] at k2 ⊢
  rw [← hx4] at k4 ⊢
  clear gb hb1 hm1 hm hsg hn hh hx0 hx1 hx2 hx4
  go_enter Tryz.func25, Tryz.ntmps25
  go_upto_region 1 with fail
  rw [← hw1, ← hb]
  clear hw1 hb
  go_wp2_with fail
  refine HN.out.mono ?_
  rintro e w2 ⟨rfl, hw2⟩
  obtain rfl := hw2.symm
  clear hw2
  go_wp2_with fail
  obtain ⟨w3, hw3⟩ : ∃ W : World, W = ((((w1.setCell ⟨b, 0, none⟩ (.int .i64 x0)).setCell ⟨b, 1, none⟩ (.int .i64 x1)).setCell ⟨b, 2, none⟩ (.int .i64 x2)).setCell ⟨b, 3, none⟩ (.int .i64 n)).setCell ⟨b, 4, none⟩ (.bool x4) := ⟨_, rfl⟩
  rw [← hw3]
  have g3 : w3.heap[b]? = some (.cells #[.int .i64 x0, .int .i64 x1, .int .i64 x2, .int .i64 n, .bool x4] 60 (0, 0)) := by
    rw [hw3]
    exact heap_setCell_here _ (heap_setCell_here _ (heap_setCell_here _ (heap_setCell_here _ (heap_setCell_here _ H.out.1))))
  have r0 := cell_of (i := 0) g3 rfl
  have r1 := cell_of (i := 1) g3 rfl
  have r2 := cell_of (i := 2) g3 rfl
  have r3 := cell_of (i := 3) g3 rfl
  have r4 := cell_of (i := 4) g3 rfl
  have hl : w.heap.size ≤ b := Nat.le_of_eq H.out.2.2.symm
  refine bodyPost_ret (v := .agg #[.int .i64 x0, .int .i64 x1, .int .i64 x2, .int .i64 n, .bool x4]) (by simp [results, Tryz.results25, go_sem, r0, r1, r2, r3, r4]) rfl ⟨rfl, ?_⟩
  rw [hw3]
  exact ((((H.out.2.1.setCell (p := ⟨b, 0, none⟩) hl _).setCell (p := ⟨b, 1, none⟩) hl _).setCell (p := ⟨b, 2, none⟩) hl _).setCell (p := ⟨b, 3, none⟩) hl _).setCell (p := ⟨b, 4, none⟩) hl _
end Go.Proofs.YtlgcoaeddeiegaaGreat
/- A log on a disk without fates, plainly: Append goes well. -/
namespace Go.Proofs.YtlgcoaeddeiegaaGreat
open Go Go.RowKit

/-- a log that lives on a disk without fates, whose files are all its own -/
structure Calm (log : ByteArray) (g : Lg) (d : Dk) : Prop where
  fates : d.fates = []
  files : ∀ f ∈ d.files, ∃ s ∈ g.segs, f.name = sname log s.1
  len : d.files.length ≤ g.segs.length
  sorted : (d.files.map (·.name)).Pairwise (· < ·)
  fit : LgFit log g d
  ok : LgOk g
  alive : g.dead = false
theorem fate_none {d : Dk} (h : d.fates = []) : d.fate = (0, 0) := by unfold Dk.fate; rw [h]
theorem sync_calm {d : Dk} {s : List UInt8} (hf : d.fates = []) (hn : nameOk s = true) {f : F0} (h : d.find s = some f) : (d.sync s).1 = 0 ∧ (d.sync s).2.fates = [] ∧ (d.sync s).2.files.length = d.files.length := by
  unfold Dk.sync
  rw [if_neg (by rw [hn]; simp), h]
  refine ⟨?_, ?_, ?_⟩
  · show d.fate.1 = 0
    rw [fate_none hf]
  · show d.fates.tail = []
    rw [hf]
    rfl
  · show (d.files.map _).length = _
    rw [List.length_map]
theorem append_calm {d : Dk} {s b : List UInt8} (hf : d.fates = []) (hn : nameOk s = true) {f : F0} (h : d.find s = some f) (hb : b.length + f.bytes.length ≤ 16777216) : (d.append s b).1 = 0 ∧ (d.append s b).2.fates = [] ∧ (d.append s b).2.files.length = d.files.length ∧ (d.append s b).2.files.map (·.name) = d.files.map (·.name) := by
  unfold Dk.append
  rw [if_neg (by rw [hn]; simp), h]
  dsimp only
  rw [if_neg (by omega)]
  refine ⟨?_, ?_, ?_, ?_⟩
  · show d.fate.1 = 0
    rw [fate_none hf]
  · show d.fates.tail = []
    rw [hf]
    rfl
  · show (d.files.map _).length = _
    rw [List.length_map]
  · show (d.files.map _).map _ = _
    rw [List.map_map]
    refine List.map_congr_left fun f _ => ?_
    show F0.name (if f.name = s then _ else f) = f.name
    split <;> rfl
theorem create_calm {d : Dk} {s : List UInt8} (hf : d.fates = []) (hn : nameOk s = true) (hnew : ∀ f ∈ d.files, f.name ≠ s) (hl : d.files.length < 4096) : (d.create s).1 = 0 ∧ (d.create s).2.fates = [] ∧ (d.create s).2.files = insF ⟨s, [], 0, true, false⟩ d.files := by
  have hat : d.at s = none := by
    unfold Dk.at
    exact List.find?_eq_none.2 (fun f hf => by simpa using hnew f hf)
  unfold Dk.create
  rw [if_neg (by rw [hn]; simp), if_neg (by rw [hat]; simp), if_neg (by omega), if_neg (by rw [fate_none hf]; simp)]
  refine ⟨rfl, ?_, rfl⟩
  show d.fates.tail = []
  rw [hf]
  rfl
theorem syncdir_calm {d : Dk} (hf : d.fates = []) : d.syncdir.1 = 0 ∧ d.syncdir.2.fates = [] ∧ d.syncdir.2.files = (d.files.filter (·.there)).map fun f => { f with named := true } := by
  unfold Dk.syncdir
  rw [if_neg (by rw [fate_none hf]; simp)]
  refine ⟨rfl, ?_, rfl⟩
  show d.fates.tail = []
  rw [hf]
  rfl
/-- what a good Append makes of a log -/
def Lg.putT (roll : Nat) (g : Lg) (l : List Rc) : Lg :=
  if roll ≤ (batsT g.lbs).length then ⟨g.segs, g.fin, [((g.fin : Int), l)], g.fin, g.dead⟩ else { g with lbs := g.lbs ++ [((g.fin : Int), l)] }
theorem names_of_map {d d' : Dk} {P : List UInt8 → Prop} (h : d'.files.map (·.name) = d.files.map (·.name)) (hP : ∀ f ∈ d.files, P f.name) : ∀ f ∈ d'.files, P f.name := fun f hf => by
  have h1 : f.name ∈ d'.files.map (·.name) := List.mem_map_of_mem hf
  rw [h] at h1
  obtain ⟨g, hg, e⟩ := List.mem_map.1 h1
  rw [← e]
  exact hP g hg
theorem add_calm {log : ByteArray} (hlog : loggedB log.data.toList = true) {g : Lg} {d : Dk} {l : List Rc} (h : Calm log g d) (hg : GoodB (g.fin : Int) l) (hb : (batsT g.lbs).length ≤ 16711680) :
    (g.addT log d l).1 = 0 ∧ (g.addT log d l).2.1 = { g with lbs := g.lbs ++ [((g.fin : Int), l)] } ∧ Calm log { g with lbs := g.lbs ++ [((g.fin : Int), l)] } (g.addT log d l).2.2 := by
  obtain ⟨f0, h1, h2⟩ := h.fit (g.lb, g.lbs) (by unfold Lg.segs; simp)
  have hn := sname_nameOk hlog g.lb
  have hz : (batchT (g.fin : Int) l).length ≤ 65536 := by rw [batchT_len]; exact hg.size
  have h2' : f0.bytes = batsT g.lbs := h2
  obtain ⟨a1, a2, a3, a4⟩ := append_calm (s := sname log g.lb) (b := batchT (g.fin : Int) l) h.fates hn h1 (by rw [h2']; omega)
  obtain ⟨k1, k2, k3⟩ := add_law hlog h.ok h.fit hg hn
  have e1 : (g.addT log d l).1 = 0 := a1
  have e2 : (g.addT log d l).2.1 = { g with lbs := g.lbs ++ [((g.fin : Int), l)] } := by
    unfold Lg.addT
    exact if_pos a1
  refine ⟨e1, e2, ?_⟩
  have k2' := k2 e1
  rw [e2] at k1 k2'
  refine ⟨a2, ?_, ?_, ?_, k2', k1, h.alive⟩
  · refine names_of_map (P := fun s => ∃ t ∈ Lg.segs { g with lbs := g.lbs ++ [((g.fin : Int), l)] }, s = sname log t.1) a4 (fun f hf => ?_)
    obtain ⟨t, ht, e⟩ := h.files f hf
    rcases List.mem_append.1 ht with ht | ht
    · exact ⟨t, List.mem_append_left _ ht, e⟩
    · rw [List.mem_singleton] at ht
      subst ht
      exact ⟨_, List.mem_append_right _ (List.mem_singleton.2 rfl), e⟩
  · have h3 := h.len
    show (d.append _ _).2.files.length ≤ (g.ini ++ [_]).length
    rw [a3]
    unfold Lg.segs at h3
    rw [List.length_append] at h3 ⊢
    exact h3
  · show ((d.append _ _).2.files.map _).Pairwise _
    rw [a4]
    exact h.sorted
theorem roll_calm {log : ByteArray} (hlog : loggedB log.data.toList = true) {g : Lg} {d : Dk} (h : Calm log g d) (hne : g.lbs ≠ []) (hfin : g.fin ≤ 9007199254740992) (hl : g.segs.length < 4096) :
    (g.rollT log d).1 = 0 ∧ (g.rollT log d).2.1 = ⟨g.segs, g.fin, [], g.fin, g.dead⟩ ∧ Calm log ⟨g.segs, g.fin, [], g.fin, g.dead⟩ (g.rollT log d).2.2 := by
  obtain ⟨f0, h1, h2⟩ := h.fit (g.lb, g.lbs) (by unfold Lg.segs; simp)
  obtain ⟨a1, a2, a3⟩ := sync_calm (s := sname log g.lb) h.fates (sname_nameOk hlog _) h1
  have hfl : g.lb < g.fin := by
    have := recsT_ne (h.ok.chain (g.lb, g.lbs) (by unfold Lg.segs; simp)).1 hne
    rw [recsT_len] at this
    unfold Lg.fin
    exact Nat.lt_add_of_pos_right this
  have hnew : ∀ f ∈ (d.sync (sname log g.lb)).2.files, f.name ≠ sname log g.fin := names_of_map (P := fun s => s ≠ sname log g.fin) (sync_names _ _) (fun f hf e => by
    obtain ⟨t, ht, e2⟩ := h.files f hf
    have h3 := sname_inj hlog (h.ok.chain t ht).2 hfin (e2.symm.trans e)
    rcases List.mem_append.1 ht with ht | ht
    · have := h.ok.last t ht
      omega
    · rw [List.mem_singleton] at ht
      subst ht
      exact Nat.lt_irrefl _ (h3 ▸ hfl))
  have hlen := h.len
  obtain ⟨b1, b2, b3⟩ := create_calm (s := sname log g.fin) a2 (sname_nameOk hlog _) hnew (by omega)
  obtain ⟨c1, c2, c3⟩ := syncdir_calm b2
  have hso : ((d.sync (sname log g.lb)).2.files.map (·.name)).Pairwise (· < ·) := by rw [sync_names]; exact h.sorted
  have hso2 := create_sorted (sname log g.fin) hso
  obtain ⟨k1, k2, k3⟩ := roll_law (log := log) h.ok h.fit hso2 hne hfin
  have e0 : g.rollT log d = (((d.sync (sname log g.lb)).2.create (sname log g.fin)).2.syncdir.1, ⟨g.segs, g.fin, [], g.fin, g.dead⟩, ((d.sync (sname log g.lb)).2.create (sname log g.fin)).2.syncdir.2) := by
    unfold Lg.rollT
    rw [if_neg (by rw [a1]; simp), if_neg (by rw [b1]; simp)]
  rw [e0] at k1 k2 k3 ⊢
  refine ⟨c1, rfl, c2, fun f hf => ?_, ?_, ?_, k2, k1, h.alive⟩
  · rw [c3, b3] at hf
    obtain ⟨y, hy, rfl⟩ := List.mem_map.1 hf
    rcases (mem_insF _ _ _).1 (List.mem_filter.1 hy).1 with rfl | hy
    · exact ⟨(g.fin, []), List.mem_append_right _ (List.mem_singleton.2 rfl), rfl⟩
    · obtain ⟨t, ht, e⟩ := names_of_map (P := fun s => ∃ t ∈ g.segs, s = sname log t.1) (sync_names _ _) (fun f hf => h.files f hf) y hy
      exact ⟨t, List.mem_append_left _ ht, e⟩
  · rw [c3, List.length_map, b3]
    have h5 := List.length_filter_le (fun f : F0 => f.there) (insF ⟨sname log g.fin, [], 0, true, false⟩ (d.sync (sname log g.lb)).2.files)
    rw [insF_length, a3] at h5
    show _ ≤ (g.segs ++ [(g.fin, [])]).length
    rw [List.length_append]
    show _ ≤ g.segs.length + 1
    omega
  · rw [c3, List.map_map]
    exact hso2.sublist (by rw [b3]; exact (List.filter_sublist (p := fun f : F0 => f.there)).map (fun f : F0 => f.name))
/-- an Append of what may be goes well -/
theorem appendT_calm {log : ByteArray} (hlog : loggedB log.data.toList = true) {roll : Nat} {g : Lg} {d : Dk} {l : List Rc} (h : Calm log g d) (hr : 1 ≤ roll ∧ roll ≤ 16711680) (hl : g.segs.length < 4096) (hf : (fitsT l).2 = 0) (hm : (g.fin : Int) + (l.length : Int) - 1 ≤ 9007199254740992) :
    g.appendT log roll d l = (0, g.putT roll l, (g.appendT log roll d l).2.2) ∧ Calm log (g.putT roll l) (g.appendT log roll d l).2.2 := by
  have hgood := (fits_good (base := (g.fin : Int)) hf (by omega) hm).1
  have hl1 := hgood.pos.1
  unfold Lg.appendT Lg.pushT Lg.putT
  rw [if_neg (by rw [h.alive]; simp), if_neg (by rw [hf]; simp), if_neg (by omega)]
  by_cases h3 : roll ≤ (batsT g.lbs).length
  · have hne : g.lbs ≠ [] := fun e => by
      rw [e] at h3
      have : roll ≤ 0 := h3
      omega
    obtain ⟨a1, a2, a3⟩ := roll_calm hlog h hne (by omega) hl
    have hf2 : Lg.fin ⟨g.segs, g.fin, [], g.fin, g.dead⟩ = g.fin := rfl
    obtain ⟨b1, b2, b3⟩ := add_calm hlog a3 (l := l) (by rw [hf2]; exact hgood) (by show (batsT []).length ≤ _; simp [batsT])
    rw [hf2] at b2 b3
    rw [if_pos h3, if_pos h3, if_neg (by rw [a1]; simp), a2, b1]
    refine ⟨?_, ?_⟩
    · unfold Lg.dies
      rw [if_pos rfl, b2]
      rfl
    · exact b3
  · obtain ⟨b1, b2, b3⟩ := add_calm hlog h (l := l) hgood (by omega)
    rw [if_neg h3, if_neg h3, b1]
    refine ⟨?_, b3⟩
    unfold Lg.dies
    rw [if_pos rfl, b2]
end Go.Proofs.YtlgcoaeddeiegaaGreat
/- Disk: Remove, its walk. -/
namespace Go.Proofs.YtlgcoaeddeiegaaGreat
open Go Go.Maps Go.RowKit

/-- a file with a lasting name is taken away -/
theorem set_gone {w w2 : World} {S : Nat → Prop} {q mb : Nat} {fv' : Value} {A B : List Fl} {x : Fl} {d1 : Dk} (ho : Only (fun k => k = q) w w2) (h2 : DiskIs w2 S q mb fv' (A ++ x :: B) d1) {oa : Option Addr} {c l : Nat} (hbv : x.bv = .slice oa x.f.bytes.length c) (hl : x.f.lasts = l)
    {s : List UInt8} {t : F0 → F0} (hs : x.f.name = s) (ht : t x.f = { x.f with bytes := x.f.bytes.take x.f.lasts, there := false }) (n : Int) :
    OpIs w S q (n, d1.turn s t) (.returned (.int .i64 n)) ((w2.setCell ⟨x.blk, 2, none⟩ (.bool false)).setCell ⟨x.blk, 0, none⟩ (.slice oa l l)).drew := by
  subst hl
  have hx := h2.each x (by simp)
  have hset : Only (fun k => k = x.blk) w2 ((w2.setCell ⟨x.blk, 2, none⟩ (.bool false)).setCell ⟨x.blk, 0, none⟩ (.slice oa x.f.lasts x.f.lasts)).drew :=
    only_drew ((only_setCell (fun k => k = x.blk) w2 x.blk 2 _ rfl).trans (only_setCell (fun k => k = x.blk) _ x.blk 0 _ rfl) (fun _ _ h => h))
  have hown : (Value.slice oa x.f.lasts x.f.lasts).ownBlock = x.bv.ownBlock := by
    rw [hbv]
    cases oa with
    | none => rfl
    | some a => rfl
  have hrow := hx.row
  rw [hbv] at hrow
  have hr2 := hrow.cap x.f.lasts hx.lasts
  rw [Nat.mul_one, byteCells_take] at hr2
  have hlen : (x.f.bytes.take x.f.lasts).length = x.f.lasts := by have := hx.lasts; rw [List.length_take]; omega
  refine file_done (x' := ⟨{ x.f with bytes := x.f.bytes.take x.f.lasts, there := false }, x.blk, .slice oa x.f.lasts x.f.lasts⟩) ho h2 (hset.mono (fun i _ hi => by rw [hi]; simp [Fl.blocks])) rfl rfl ⟨?_, ?_, ?_, ?_⟩ (fun i hi => .inl (by rw [← hown]; exact hi)) hs ht.symm n
  · exact heap_setCell_here (w := w2.setCell ⟨x.blk, 2, none⟩ (.bool false)) _ (heap_setCell_here (w := w2) _ hx.cells)
  · show rowAt _ _ 1 _ (x.f.bytes.take x.f.lasts).length (byteCells (x.f.bytes.take x.f.lasts))
    rw [hlen]
    exact hr2.kept (fun i hi => hset.block i (hr2.lt i hi) (FlAt.own_ne h2 i (by rw [← hown]; exact hi)))
  · show x.f.lasts ≤ (x.f.bytes.take x.f.lasts).length
    omega
  · show (x.f.bytes.take x.f.lasts).length ≤ 16777216
    have := hx.size
    have := hx.lasts
    omega
set_option maxRecDepth 100000 in
set_option maxHeartbeats 1000000 in
theorem remove_b {w : World} {S : Nat → Prop} {q : Nat} {d : Dk} (h : DiskAt w S q d) (nm : ByteArray) (hs : nm.size ≤ maxLen) :
    Calls Tryz.prog 93 #[.pointer (some ⟨q, 0, none⟩), .string nm] w fun e w' => OpIs w S q (d.remove nm.data.toList) e w' := by
  obtain ⟨mb, fv, L, h⟩ := h
  go_enter Tryz.func93, Tryz.ntmps93
  go_wp2_with fail
  refine (find_b h nm hs).mono ?_
  rintro e w' ⟨hF, rfl⟩
  rcases hF with ⟨hn, rfl⟩ | ⟨hn, hf, rfl⟩ | ⟨hn, A, x, B, rfl, hxn, hxt, hf, rfl⟩
  · have HO : Hid (OpIs w' S q (d.remove nm.data.toList) (.returned (.int .i64 2)) w') := Lib.hid (by
      rw [show d.remove nm.data.toList = (2, d) by simp [Dk.remove, hn]]
      exact OpIs.same h 2)
    clear h hn
    go_wp2_with fail
    go_ret
    exact HO.out
  · have HO : Hid (OpIs w' S q (d.remove nm.data.toList) (.returned (.int .i64 171)) w') := Lib.hid (by
      rw [show d.remove nm.data.toList = (171, d) by simp [Dk.remove, hn, hf]]
      exact OpIs.same h 171)
    clear h hn hf
    go_wp2_with fail
    go_ret
    exact HO.out
  · have H := Lib.hid h
    have HN := Lib.hid (And.intro hn hf)
    clear h hn hf
    go_wp2_with fail
    refine (step_b H.out).mono ?_
    rintro e w1 ⟨kd, kp, fv', rfl, hkp, h1, ho1⟩
    obtain ⟨er, her⟩ : ∃ er, d.fate.1 = er := ⟨_, rfl⟩
    rw [her]
    have H1 := Lib.hid h1
    have HO1 := Lib.hid ho1
    have HE := Lib.hid her
    clear h1 ho1 hkp her
    go_upto_region 5 with fail
    obtain ⟨w2, hw2⟩ : ∃ w2 : World, w2 = w1.alloc (.cells #[.int .i64 kd, .int .i64 kp] 98) := ⟨_, rfl⟩
    obtain ⟨r, hr⟩ : ∃ r, r = w1.heap.size := ⟨_, rfl⟩
    have h2 : DiskIs w2 S q mb fv' (A ++ x :: B) d.next := by rw [hw2]; exact H1.out.below ((Below.refl _ _).alloc (Nat.le_refl _) _)
    have ho2 : Only (fun k => k = q) w' w2 := by rw [hw2]; exact HO1.out.trans (only_alloc (fun k => k = q) _ _) (fun _ _ h => h)
    rw [← hw2, ← hr]
    clear hw2 hr H1 HO1
    by_cases h0 : er = 0
    · subst h0
      have hx := h2.each x (by simp)
      have hxc := hx.cells
      obtain ⟨nd, hnd⟩ : ∃ nd, x.f.named = nd := ⟨_, rfl⟩
      have k3 : w2.cell? ⟨x.blk, 3, none⟩ = some (.bool nd) := by rw [← hnd]; exact cell_of hxc rfl
      cases nd with
      | false =>
        have c0 : w2.cell? ⟨q, 0, none⟩ = some (.map (some mb)) := cell_of h2.head rfl
        obtain ⟨D, hown, hdsz, hdic⟩ := h2.look
        have HOWN := Lib.hid (And.intro hown hdic)
        have HKEY : Hid (keyOf Tryz.prog 9 (.string nm) = some (.string nm.data.toList)) := Lib.hid (WideMaps.keyOf_string_mk (P := Tryz.prog) Tryz.underlying9 hs)
        have H2 := Lib.hid h2
        have HO2 := Lib.hid ho2
        have HND := Lib.hid hnd
        clear h2 ho2 hx hxc hown hdsz hdic hnd
        go_wp2_with (at_delete; refine wpList_delete_own _ rfl _ _ 118 9 rfl 175 (string_keyed Tryz.underlying9) Tryz.underlying118 ptrElem mb _ D rfl HOWN.out.1 _ _ rfl HKEY.out ?_; intro w3 hown3 hturn3; have HW3 := Lib.hid (And.intro hown3 hturn3); clear hown3 hturn3)
        go_ret
        have h3 := set_drop (d := d) HO2.out H2.out HOWN.out.2 HW3.out.2 HW3.out.1 hxn rfl
        have e : d.remove nm.data.toList = (0, { d.next with files := d.files.filter fun f => f.name != nm.data.toList }) := by
          unfold Dk.remove
          rw [HN.out.1, HN.out.2]
          simp only [HE.out, HND.out]
          rw [if_neg (by simp), if_neg (by simp), if_neg (by simp)]
        rw [e]
        exact h3
      | true =>
        obtain ⟨oaf, cf, hbv, hnc⟩ := hx.row.shape
        obtain ⟨N, hnn⟩ : ∃ N, x.f.bytes.length = N := ⟨_, rfl⟩
        obtain ⟨l, hll⟩ : ∃ l, x.f.lasts = l := ⟨_, rfl⟩
        have hlN : l ≤ N := by rw [← hnn, ← hll]; exact hx.lasts
        have hxr := hx.row
        rw [hbv, hnn] at hxr
        obtain ⟨hm0, hNc⟩ := hxr.map0
        rw [hbv, hnn, hll, hxt, hnd] at hxc
        have hsl : ∀ W : World, (Instr.slice 39 (.slice oaf N cf) none (some (.int .i64 (l : Int))) (some (.int .i64 (l : Int)))).run Tryz.prog W = .ok (.slice oaf l l) W := fun W => run_both oaf N cf l (by omega) hm0 W
        have k2 : w2.cell? ⟨x.blk, 2, none⟩ = some (.bool true) := cell_of hxc rfl
        have z2 : w2.frozen? ⟨x.blk, 2, none⟩ = false := free_of hxc _
        have HO : Hid (OpIs w' S q (d.remove nm.data.toList) (.returned (.int .i64 0)) ((w2.setCell ⟨x.blk, 2, none⟩ (.bool false)).setCell ⟨x.blk, 0, none⟩ (.slice oaf l l)).drew) := Lib.hid (by
          have h3 := set_gone ho2 h2 (oa := oaf) (c := cf) hbv hll (s := nm.data.toList) (t := fun f => { f with bytes := f.bytes.take f.lasts, there := false }) hxn rfl 0
          have e : d.remove nm.data.toList = (0, d.next.turn nm.data.toList fun f => { f with bytes := f.bytes.take f.lasts, there := false }) := by
            unfold Dk.remove
            rw [HN.out.1, HN.out.2]
            simp only [HE.out, hnd]
            rw [if_neg (by simp), if_neg (by simp), if_pos trivial]
          rw [e]
          exact h3)
        have hc3 := heap_setCell_here (i := 2) (.bool false) hxc
        clear h2 ho2 hx hxr hm0 hbv hnn hll hnc hnd
        go_upto_region 11 with fail
        obtain ⟨w3, hw3⟩ : ∃ w3 : World, w3 = w2.setCell ⟨x.blk, 2, none⟩ (.bool false) := ⟨_, rfl⟩
        rw [← hw3] at HO hc3 ⊢
        have k0 : w3.cell? ⟨x.blk, 0, none⟩ = some (.slice oaf N cf) := cell_of hc3 rfl
        have z0 : w3.frozen? ⟨x.blk, 0, none⟩ = false := free_of hc3 _
        have k1 : w3.cell? ⟨x.blk, 1, none⟩ = some (.int .i64 l) := cell_of hc3 rfl
        clear hw3 hc3 hxc k2 z2 k3
        go_region
        go_wp2_with fail
        go_ret
        exact HO.out
    · have hb0 : (er != 0) = true := by simpa using h0
      have HO : Hid (OpIs w' S q (d.remove nm.data.toList) (.returned (.int .i64 er)) w2) := Lib.hid (by
        rw [show d.remove nm.data.toList = (er, d.next) by
          unfold Dk.remove
          rw [HN.out.1, HN.out.2]
          simp only [HE.out]
          rw [if_neg (by simp), if_pos h0]]
        exact OpIs.next ho2 h2 er)
      clear h0 h2 ho2
      go_wp2_with fail
      go_ret
      exact HO.out
end Go.Proofs.YtlgcoaeddeiegaaGreat
/- Disk: are fates such as may be. -/
namespace Go.Proofs.YtlgcoaeddeiegaaGreat
open Go Go.Maps Go.RowKit

def badFate (x : Int × Int) : Bool := decide (x.1 < 0) || decide (2 < x.1)
set_option maxRecDepth 100000 in
set_option maxHeartbeats 400000 in
theorem badFate_b (k n : Int) (w : World) : Calls Tryz.prog 129 #[.agg #[.int .i64 k, .int .i64 n]] w fun e w' => e = .returned (.bool (badFate (k, n))) ∧ Below w.heap.size w w' := by
  go_enter Tryz.func129, Tryz.ntmps129
  go_upto_region 1 with fail
  obtain ⟨w1, hw1⟩ : ∃ w1 : World, w1 = w.alloc (.cells #[.int .i64 k, .int .i64 n] 98) := ⟨_, rfl⟩
  obtain ⟨r, hr⟩ : ∃ r, r = w.heap.size := ⟨_, rfl⟩
  have hr1 : w1.heap[r]? = some (.cells #[.int .i64 k, .int .i64 n] 98 (0, 0)) := by rw [hw1, hr]; exact alloc_cells _ _ _
  have HB : Hid (Below w.heap.size w w1) := Lib.hid (by rw [hw1]; exact (Below.refl _ _).alloc (Nat.le_refl _) _)
  rw [← hr, ← hw1]
  clear hw1 hr
  have c0 : w1.cell? ⟨r, 0, none⟩ = some (.int .i64 k) := cell_of hr1 rfl
  by_cases h1 : k < 0
  · have d1 : decide (k < 0) = true := by simpa using h1
    have HV : Hid (badFate (k, n) = true) := Lib.hid (by simp [badFate, h1])
    clear h1
    go_wp2_with fail
    go_ret
    exact ⟨by rw [HV.out]; rfl, HB.out⟩
  · have d1 : decide (k < 0) = false := by simpa using h1
    have HV : Hid (badFate (k, n) = decide (2 < k)) := Lib.hid (by simp [badFate]; omega)
    clear h1
    go_wp2_with fail
    go_ret
    exact ⟨by rw [HV.out]; rfl, HB.out⟩
theorem fate_cells (l : List (Int × Int)) (k : Nat) (h : k < l.length) : (fateCells l)[2 * k]? = some (.int .i64 l[k].1) ∧ (fateCells l)[2 * k + 1]? = some (.int .i64 l[k].2) := by
  induction l generalizing k with
  | nil => simp at h
  | cons x r ih =>
    cases k with
    | zero => exact ⟨rfl, rfl⟩
    | succ k =>
      have := ih k (by simpa using h)
      rw [fateCells_cons, show 2 * (k + 1) = 2 * k + 1 + 1 by omega]
      simpa using this
set_option maxRecDepth 100000 in
set_option maxHeartbeats 400000 in
theorem indexFate_b {w : World} {oa : Option Addr} {n c : Nat} {l : List (Int × Int)} (hn : l.length = n) (h : readAt w 2 (.slice oa n c) n (fateCells l)) (hm : n ≤ 1000000000) :
    Calls Tryz.prog 179 #[.slice oa n c, .func (.func 129) #[] #[]] w fun e w' => ∃ i : Int, e = .returned (.int .i64 i) ∧ (l.any badFate = false → i = -1) ∧ (l.any badFate = true → 0 ≤ i) ∧ Below w.heap.size w w' := by
  have H := Lib.hid h
  clear h
  go_enter Tryz.func179, Tryz.ntmps179
  go_wp2_with fail
  go_loopw [8] (fun i wr => ∃ k : Nat, k ≤ n ∧ i = .int .i64 k ∧ (l.take k).any badFate = false ∧ Below w.heap.size w wr) (fun i _ => n - (intOf i).toNat)
  case atStart => exact ⟨0, Nat.zero_le _, rfl, by simp, Below.refl _ _⟩
  case round =>
    obtain ⟨k, hk, rfl, hge, hbr⟩ := hrel
    by_cases hlt : k < n
    · obtain ⟨g, off, rfl⟩ := H.out.addr (by omega)
      obtain ⟨x, hx⟩ : ∃ x, l[k]'(by omega) = x := ⟨_, rfl⟩
      have hfc := fate_cells l k (by omega)
      rw [hx] at hfc
      have hgl := H.out.lt (by omega) g rfl
      have hc0 : wr.cell? ⟨g, off + k * 2, none⟩ = some (.int .i64 x.1) := by
        have h1 := H.out.cells (g := g) (off := off) rfl (2 * k) _ hfc.1
        rw [Go.WideShapes.add_plain, Nat.mul_comm] at h1
        rw [← h1]
        exact cell_kept_at (hbr.block g hgl)
      have hc1 : wr.cell? ⟨g, off + k * 2 + 1, none⟩ = some (.int .i64 x.2) := by
        have h1 := H.out.cells (g := g) (off := off) rfl (2 * k + 1) _ hfc.2
        rw [Go.WideShapes.add_plain, Nat.mul_comm, ← Nat.add_assoc] at h1
        rw [← h1]
        exact cell_kept_at (hbr.block g hgl)
      have HX : Hid (badFate x = false → (l.take (k + 1)).any badFate = false) := Lib.hid fun h0 => by
        rw [List.take_succ_eq_append_getElem (by omega), List.any_append, hge, hx]
        simp [h0]
      have HY : Hid (badFate x = true → l.any badFate = true) := Lib.hid fun h0 => List.any_eq_true.2 ⟨x, by rw [← hx]; exact List.getElem_mem _, h0⟩
      have HBR := Lib.hid hbr
      obtain ⟨x1, x2⟩ := x
      clear hge hx hfc hbr hgl
      go_wp2_with (go_at_call 129; refine (badFate_b x1 x2 _).mono ?_; rintro e w' ⟨rfl, hb'⟩; have HB' := Lib.hid hb'; clear hb')
      · go_ret
        exact ⟨_, rfl, fun ha => (by rw [HY.out (by assumption)] at ha; cases ha), fun _ => by omega, HBR.out.trans (HB'.out.mono HBR.out.size)⟩
      · exact ⟨⟨k + 1, by omega, by simp, HX.out (by assumption), HBR.out.trans (HB'.out.mono HBR.out.size)⟩, by simp [intOf]; omega⟩
    · obtain rfl : k = n := by omega
      have HA : Hid (l.any badFate = false) := Lib.hid (by rwa [List.take_of_length_le (by omega)] at hge)
      have HBR := Lib.hid hbr
      clear hge hbr
      go_wp2_with fail
      go_ret
      exact ⟨_, rfl, fun _ => rfl, fun h => (by rw [HA.out] at h; cases h), HBR.out⟩
end Go.Proofs.YtlgcoaeddeiegaaGreat
/- Disk: are all fates right; a copy of fates. -/
namespace Go.Proofs.YtlgcoaeddeiegaaGreat
open Go Go.Maps Go.RowKit

set_option maxHeartbeats 400000 in
theorem containsFate_b {w : World} {oa : Option Addr} {n c : Nat} {l : List (Int × Int)} (hn : l.length = n) (h : readAt w 2 (.slice oa n c) n (fateCells l)) (hm : n ≤ 1000000000) :
    Calls Tryz.prog 128 #[.slice oa n c, .func (.func 129) #[] #[]] w fun e w' => e = .returned (.bool (l.any badFate)) ∧ Below w.heap.size w w' := by
  go_enter Tryz.func128, Tryz.ntmps128
  go_wp2_with fail
  refine (indexFate_b hn h hm).mono ?_
  rintro e w1 ⟨i, rfl, h1, h2, hb⟩
  have hd : decide ((0 : Int) ≤ i) = l.any badFate := by
    cases hb : l.any badFate with
    | false =>
      have := h1 hb
      simp
      omega
    | true =>
      have := h2 hb
      simpa using this
  have HB := Lib.hid hb
  have HD := Lib.hid hd
  clear h h1 h2 hb hd
  go_wp2_with fail
  go_ret
  exact ⟨by rw [← HD.out]; rfl, HB.out⟩
set_option maxHeartbeats 400000 in
theorem right_b {w : World} {oa : Option Addr} {n c : Nat} {l : List (Int × Int)} (hn : l.length = n) (h : readAt w 2 (.slice oa n c) n (fateCells l)) (hm : n ≤ 1000000000) :
    Calls Tryz.prog 58 #[.slice oa n c] w fun e w' => e = .returned (.bool (!l.any badFate)) ∧ Below w.heap.size w w' := by
  go_enter Tryz.func58, Tryz.ntmps58
  go_wp2_with fail
  refine (containsFate_b hn h hm).mono ?_
  rintro e w1 ⟨rfl, hb⟩
  obtain ⟨b, hbb⟩ : ∃ b, l.any badFate = b := ⟨_, rfl⟩
  rw [hbb]
  have HB := Lib.hid hb
  have HBB := Lib.hid hbb
  clear h hb hbb
  go_wp2_with fail
  go_ret
  exact ⟨by rw [HBB.out]; rfl, HB.out⟩
theorem info_fate : (Tryz.prog.info? 98).map (fun i => (i.zero, i.size, i.bytes)) = some (some (.agg #[.int .i64 0, .int .i64 0]), 2, 16) := by kernel_rfl
theorem fateCells_one (l : List (Int × Int)) : ∀ v ∈ fateCells l, v.oneCell' = true := by
  intro v hv
  obtain ⟨x, _, hx⟩ := List.mem_flatMap.1 hv
  simp only [List.mem_cons, List.not_mem_nil, or_false] at hx
  rcases hx with rfl | rfl <;> rfl
theorem emptyRowF (w : World) (T : TypeId) (size : Nat) : hasRow (w.alloc (.cells #[] T)) w.heap.size T size (.slice (some ⟨w.heap.size, 0, none⟩) 0 0) 0 [] :=
  ⟨by simp, .inr ⟨_, 0, #[], (0, 0), rfl, Nat.le_refl _, heap_alloc_new _ _, Nat.le_refl _, Nat.zero_le _, by simp, fun j hj => by simp at hj, by simp⟩⟩
set_option maxRecDepth 100000 in
set_option maxHeartbeats 400000 in
theorem cloneFate_b {w : World} {oa : Option Addr} {n c : Nat} {l : List (Int × Int)} (hn : l.length = n) (h : readAt w 2 (.slice oa n c) n (fateCells l)) (hm : n ≤ 1000000000) :
    Calls Tryz.prog 59 #[.slice oa n c] w fun e w' => ∃ v, e = .returned v ∧ rowAt w' 98 2 v n (fateCells l) ∧ (∀ k, v.ownBlock = some k → w.heap.size ≤ k) ∧ Below w.heap.size w w' := by
  cases oa with
  | none =>
    rcases h.2 with ⟨h0, _, _, hv, hc0⟩ | ⟨g, off, c, hv, _⟩
    · simp only [Value.slice.injEq] at hv
      obtain ⟨rfl, -, rfl⟩ := hv
      obtain rfl := hc0 rfl
      subst h0
      have H := Lib.hid h
      refine (cloneFate_nil w).mono ?_
      rintro e w' ⟨rfl, rfl⟩
      exact ⟨_, rfl, ⟨H.out.1, .inl ⟨rfl, rfl⟩⟩, fun k hk => by simp [Value.ownBlock] at hk, Below.refl _ _⟩
    · simp at hv
  | some ad =>
    have hnil : ∀ W : World, (binOp .eql 37 (.slice (some ad) n c) (.slice none 0 0)).run Tryz.prog W = .ok (.bool false) W := fun W => by kernel_rfl
    have HS : Hid (Src Tryz.prog (w.alloc (.cells #[] 98)) 2 37 (.slice (some ad) n c) n (fateCells l)) := Lib.hid (Src.of_read Tryz.underlying37 (h.kept (fun k hl _ _ => Below.heap_alloc _ _ k hl)) (fateCells_one _))
    clear h
    go_enter Tryz.func59, Tryz.ntmps59
    go_wp2_with (at_builtin; refine wpList_append_at _ rfl (.tmp 5) (.tmp 6) 37 37 rfl 98 (.agg #[.int .i64 0, .int .i64 0]) 2 16 Tryz.underlying37 info_fate rfl _ 0 _ rfl (rowAt.of_row (emptyRowF w _ _)) _ n _ rfl HS.out (by unfold maxLen; omega) (by omega) ?_; intro v' w3 hr hg hown _; have HR := Lib.hid hr; have HG : Hid ((w.alloc (.cells #[] 98)).grownBy w3 (some w.heap.size)) := Lib.hid hg; have HOWN : Hid (v'.ownBlock = some w.heap.size ∨ v'.ownBlock = some (w.alloc (.cells #[] 98)).heap.size) := Lib.hid hown; clear hr hg hown)
    go_ret
    refine ⟨v', rfl, ?_, fun k hk => ?_, ?_⟩
    · have := HR.out
      rw [Nat.zero_add, List.nil_append] at this
      exact this
    · have h1 := HOWN.out
      rw [hk] at h1
      simp at h1
      omega
    · exact ((Below.refl _ _).alloc (Nat.le_refl _) _).grown HG.out (by simp) (fun k hk => by simp at hk; omega)
end Go.Proofs.YtlgcoaeddeiegaaGreat
/- Disk: New, with any fates. -/
namespace Go.Proofs.YtlgcoaeddeiegaaGreat
open Go Go.Maps Go.RowKit

theorem disk_newF {w w2 w3 : World} {v : Value} {l : List (Int × Int)} (hw2 : w2 = w.alloc (.map #[] 0)) (hb : Below w2.heap.size w2 w3) (hr : rowAt w3 98 2 v l.length (fateCells l)) (hv : ∀ k, v.ownBlock = some k → w2.heap.size ≤ k) :
    DiskIs (w3.alloc (.cells #[.map (some w.heap.size), v, .int .i64 0] 120)) (fun k => w.heap.size ≤ k ∧ k < w3.heap.size + 1) w3.heap.size w.heap.size v [] ⟨[], l, 0⟩ := by
  have hs2 : w2.heap.size = w.heap.size + 1 := by rw [hw2]; simp
  have hs3 := hb.size
  have hm2 : w2.ownsMap Tryz.prog 9 ptrElem w.heap.size 0 (.map []) := by rw [hw2]; exact World.ownsMap_made w Tryz.prog 9 ptrElem
  have hm3 := ownsMap_kept hm2 (hb.block w.heap.size (by omega))
  have hvb : ∀ k, v.ownBlock = some k → w.heap.size + 1 ≤ k ∧ k < w3.heap.size := fun k hk => ⟨by have := hv k hk; omega, hr.lt k hk⟩
  exact {
    files := rfl
    head := alloc_cells _ _ _
    fates := hr.kept (fun k hk => Below.heap_alloc _ _ k (hr.lt k hk))
    map := ⟨_, hm3.alloc _, Dic.empty⟩
    each := fun x hx => (by cases hx)
    apart := by
      cases ho : v.ownBlock with
      | none =>
        simp [diskBlocks, ho]
        omega
      | some k =>
        have := hvb k ho
        simp [diskBlocks, ho]
        omega
    foot := fun k hk => by
      simp only [diskBlocks, List.mem_cons, List.flatMap_nil, List.append_nil, Option.mem_toList] at hk
      rcases hk with rfl | rfl | hk
      · omega
      · omega
      · have := hvb k hk
        omega
    low := fun k hk => by simp; omega
    sorted := by simp
    names := fun f hf => by simp at hf
    few := by simp }
set_option maxHeartbeats 400000 in
theorem newF_b {w : World} {oa : Option Addr} {n c : Nat} {l : List (Int × Int)} (hn : l.length = n) (h : readAt w 2 (.slice oa n c) n (fateCells l)) (hm : n ≤ 1000000000) (hok : l.any badFate = false) :
    Calls Tryz.prog 14 #[.slice oa n c] w fun e w' => ∃ q, e = .returned (.tuple #[.pointer (some ⟨q, 0, none⟩), .int .i64 0]) ∧ DiskAt w' (fun k => w.heap.size ≤ k ∧ k < w'.heap.size) q ⟨[], l, 0⟩ ∧ Below w.heap.size w w' := by
  have hmm := @run_makeMap Tryz.prog
  go_enter Tryz.func14, Tryz.ntmps14
  go_wp2_with fail
  refine (right_b hn h hm).mono ?_
  rintro e w1 ⟨rfl, hb1⟩
  rw [hok]
  have H1 := Lib.hid (h.kept (fun k hl _ _ => hb1.block k hl))
  have HB1 := Lib.hid hb1
  clear h hb1
  go_upto_region 3 with fail
  go_wp2_with fail
  have hbm : Below w1.heap.size w1 (w1.alloc (.map #[] 0)) := (Below.refl _ _).alloc (Nat.le_refl _) _
  refine (cloneFate_b hn (H1.out.kept (fun k hl _ _ => hbm.block k hl)) hm).mono ?_
  rintro e w3 ⟨v, rfl, hr3, hv3, hb3⟩
  obtain ⟨oav, cv, rfl, _⟩ := hr3.shape
  subst hn
  have hdn := disk_newF rfl hb3 hr3 hv3
  have hs3 := hb3.size
  have HD := Lib.hid hdn
  have HB3 := Lib.hid (And.intro hb3 (And.intro hbm hs3))
  clear hr3 hv3 hb3 hbm hdn hs3
  go_wp2_with fail
  go_ret2
  have h1 := HB1.out.size
  have h3 := HB3.out.2.2
  simp at h3
  refine ⟨_, rfl, ⟨_, _, _, HD.out.wider (fun k hk => ⟨by omega, by simp; omega⟩) (fun k hk => hk.2)⟩, ?_⟩
  exact (HB1.out.trans ((HB3.out.2.1.trans (HB3.out.1.mono HB3.out.2.1.size)).mono h1)).alloc (by omega) _
end Go.Proofs.YtlgcoaeddeiegaaGreat
/- Disk: the fates are written. -/
namespace Go.Proofs.YtlgcoaeddeiegaaGreat
open Go Go.Maps Go.RowKit

section
variable {w : World} {S : Nat → Prop} {q mb : Nat} {fv : Value} {L : List Fl} {d : Dk}
/-- the struct and its fates are written -/
theorem DiskIs.fates_turn {w' : World} {fv' : Value} {fs' : List (Int × Int)} {st' : Int} (h : DiskIs w S q mb fv L d) (ho : Only (fun k => k = q ∨ fv.ownBlock = some k) w w')
    (hq : w'.heap[q]? = some (.cells #[.map (some mb), fv', .int .i64 st'] 120 (0, 0))) (hob : ∀ k, fv'.ownBlock = some k → fv.ownBlock = some k ∨ (w.heap.size ≤ k ∧ k < w'.heap.size))
    (hr : rowAt w' 98 2 fv' fs'.length (fateCells fs')) : DiskIs w' (fun k => S k ∨ (w.heap.size ≤ k ∧ k < w'.heap.size)) q mb fv' L { d with fates := fs', steps := st' } := by
  have hap := h.apart
  simp only [diskBlocks, List.nodup_cons, List.mem_cons, not_or] at hap
  obtain ⟨⟨hqm, hqr⟩, hmr, hrest⟩ := hap
  have hfr := List.nodup_append.1 hrest
  have hmS : S mb := h.foot mb (by simp [diskBlocks])
  have hqS : S q := h.q_mem
  have hbS : ∀ k ∈ L.flatMap Fl.blocks, S k := fun k hk => h.foot k (by simp only [diskBlocks, List.mem_cons, List.mem_append]; exact .inr (.inr (.inr hk)))
  have hkeep : ∀ k, S k → k ≠ q → fv.ownBlock ≠ some k → w'.heap[k]? = w.heap[k]? := fun k hk h1 h2 => ho.block k (h.low k hk) (fun he => by
    rcases he with he | he
    · exact h1 he
    · exact h2 he)
  have hmf : fv.ownBlock ≠ some mb := fun e => hmr (List.mem_append_left _ (by simp [e]))
  have hbf : ∀ k ∈ L.flatMap Fl.blocks, fv.ownBlock ≠ some k := fun k hk e => hfr.2.2 k (by simp [e]) k hk rfl
  have hbq : ∀ k ∈ L.flatMap Fl.blocks, k ≠ q := fun k hk e => hqr (List.mem_append_right _ (e ▸ hk))
  exact {
    files := h.files
    head := hq
    fates := hr
    map := by
      obtain ⟨D, hown, hd⟩ := h.map
      exact ⟨D, ownsMap_kept hown (hkeep mb hmS (fun e => hqm e.symm) hmf), hd⟩
    each := fun x hx => (h.each x hx).kept (fun k hk => by
      have hk' : k ∈ L.flatMap Fl.blocks := List.mem_flatMap.2 ⟨x, hx, hk⟩
      exact hkeep k (hbS k hk') (hbq k hk') (hbf k hk'))
    apart := by
      have hfv : ∀ k, fv'.ownBlock = some k → k ≠ q ∧ k ≠ mb ∧ k ∉ L.flatMap Fl.blocks := fun k hk => by
        rcases hob k hk with h1 | h1
        · exact ⟨fun e => hqr (List.mem_append_left _ (by simp [h1, e])), fun e => hmr (List.mem_append_left _ (by simp [h1, e])), fun hm => hbf k hm h1⟩
        · have h2 := h.low q hqS
          have h3 := h.low mb hmS
          exact ⟨by omega, by omega, fun hm => by have := h.low k (hbS k hm); omega⟩
      simp only [diskBlocks, List.nodup_cons, List.mem_cons, List.mem_append, Option.mem_toList, not_or]
      refine ⟨⟨hqm, fun e => (hfv q e).1 rfl, fun hm => hbq q hm rfl⟩, ⟨fun e => (hfv mb e).2.1 rfl, fun hm => hmr (List.mem_append_right _ hm)⟩, List.nodup_append.2 ⟨?_, hfr.2.1, fun a ha b hb e => ?_⟩⟩
      · cases fv'.ownBlock <;> simp
      · subst e
        exact (hfv a (by simpa using ha)).2.2 hb
    foot := fun k hk => by
      simp only [diskBlocks, List.mem_cons, List.mem_append, Option.mem_toList] at hk
      rcases hk with rfl | rfl | hk | hk
      · exact .inl hqS
      · exact .inl hmS
      · rcases hob k hk with h1 | h1
        · exact .inl (h.foot k (by simp [diskBlocks, h1]))
        · exact .inr h1
      · exact .inl (hbS k hk)
    low := fun k hk => by
      rcases hk with hk | hk
      · exact Nat.lt_of_lt_of_le (h.low k hk) ho.size
      · exact hk.2
    sorted := h.sorted
    names := h.names
    few := h.few }
end
end Go.Proofs.YtlgcoaeddeiegaaGreat
/- Disk: Feed. -/
namespace Go.Proofs.YtlgcoaeddeiegaaGreat
open Go Go.Maps Go.RowKit

def Dk.feed (d : Dk) (l : List (Int × Int)) : Int × Dk := if l.any badFate = true then (2, d) else (0, { d with fates := d.fates ++ l })
theorem fateCells_append (a b : List (Int × Int)) : fateCells a ++ fateCells b = fateCells (a ++ b) := by simp [fateCells]
set_option maxRecDepth 100000 in
set_option maxHeartbeats 1000000 in
theorem feed_b {w : World} {S : Nat → Prop} {q : Nat} {d : Dk} (h : DiskAt w S q d) {oa : Option Addr} {n c : Nat} {l : List (Int × Int)} (hn : l.length = n) (hl : readAt w 2 (.slice oa n c) n (fateCells l)) (hm : n ≤ 1000000) (hdm : d.fates.length ≤ 1000000000) :
    Calls Tryz.prog 44 #[.pointer (some ⟨q, 0, none⟩), .slice oa n c] w fun e w' => OpIs w S q (d.feed l) e w' := by
  obtain ⟨mb, fv, L, h⟩ := h
  go_enter Tryz.func44, Tryz.ntmps44
  go_wp2_with fail
  refine (none_b h).mono ?_
  rintro e w' ⟨rfl, rfl⟩
  go_wp2_with fail
  refine (right_b hn hl (by omega)).mono ?_
  rintro e w1 ⟨rfl, hb1⟩
  have h1 := h.below hb1
  have hl1 := hl.kept (fun k hl _ _ => hb1.block k hl)
  have hob : Only (fun k => k = q) w' w1 := Only.of_below hb1 (Nat.le_refl _) _
  obtain ⟨b, hbb⟩ : ∃ b, l.any badFate = b := ⟨_, rfl⟩
  rw [hbb]
  cases b with
  | true =>
    have HO : Hid (OpIs w' S q (d.feed l) (.returned (.int .i64 2)) w1) := Lib.hid (by
      rw [show d.feed l = (2, d) by simp [Dk.feed, hbb]]
      exact OpIs.next hob h1 2)
    clear h hl hb1 h1 hl1 hob hbb
    go_wp2_with fail
    go_ret
    exact HO.out
  | false =>
    obtain ⟨oaf, cf, rfl, _⟩ := h1.fates.shape
    obtain ⟨st, hst⟩ : ∃ st, d.steps = st := ⟨_, rfl⟩
    obtain ⟨m, hmm⟩ : ∃ m, d.fates.length = m := ⟨_, rfl⟩
    have hh := h1.head
    rw [hst, hmm] at hh
    rw [hmm] at hdm
    have hfr : rowAt w1 98 2 (.slice oaf m cf) m (fateCells d.fates) := by have := h1.fates; rwa [hmm] at this
    have hqv : ∀ k, (Value.slice oaf m cf).ownBlock = some k → k ≠ q := fun k hk he => by
      have h2 := h1.apart
      simp only [diskBlocks, List.nodup_cons] at h2
      have h3 : (Value.slice oaf d.fates.length cf).ownBlock = some k := by rw [hmm]; exact hk
      exact h2.1 (by rw [← he]; simp [h3])
    have HS : Hid (Src Tryz.prog w1 2 37 (.slice oa n c) n (fateCells l)) := Lib.hid (Src.of_read Tryz.underlying37 hl1 (fateCells_one _))
    have HF := Lib.hid hfr
    have HH := Lib.hid hh
    have H1 := Lib.hid h1
    have HOB := Lib.hid hob
    have HQV := Lib.hid hqv
    have HBB := Lib.hid (And.intro hbb (And.intro hst hmm))
    have c1 : w1.cell? ⟨q, 1, none⟩ = some (.slice oaf m cf) := cell_of hh rfl
    have hqlt : q < w1.heap.size := (Array.getElem?_eq_some_iff.1 hh).1
    clear h hl hb1 h1 hl1 hob hbb hst hmm hh hfr hqv
    go_wp2_with (at_builtin; refine wpList_append_at _ rfl (.tmp 16) (.tmp 17) 37 37 rfl 98 (.agg #[.int .i64 0, .int .i64 0]) 2 16 Tryz.underlying37 info_fate rfl _ m _ rfl HF.out _ n _ rfl HS.out (by unfold maxLen; omega) (by omega) ?_; intro v' w3 hr hg hown _; obtain ⟨oa', c', rfl, _⟩ := hr.shape; have hg' : w1.grownBy w3 (Value.slice oaf m cf).ownBlock := hg; have hown' : (Value.slice oa' (m + n) c').ownBlock = (Value.slice oaf m cf).ownBlock ∨ (Value.slice oa' (m + n) c').ownBlock = some w1.heap.size := hown; have hh3 : w3.heap[q]? = w1.heap[q]? := hg'.block q hqlt (fun e => HQV.out q e.symm rfl); have hc3 : w3.cell? ⟨q, 1, none⟩ = some (.slice oaf m cf) := (by rw [← c1]; exact cell_kept_at hh3); have hz3 : w3.frozen? ⟨q, 1, none⟩ = false := (by rw [frozen_kept_at hh3]; exact free_of HH.out _); have HR := Lib.hid hr; have HG := Lib.hid hg'; have HOWN := Lib.hid hown'; have HH3 := Lib.hid hh3; clear hr hg hown hg' hown' hh3)
    go_ret
    obtain ⟨w4, hw4⟩ : ∃ w4 : World, w4 = w3.setCell ⟨q, 1, none⟩ (.slice oa' (m + n) c') := ⟨_, rfl⟩
    have hset : Only (fun k => k = q) w3 w4 := by rw [hw4]; exact only_setCell (fun k => k = q) w3 q 1 _ rfl
    have hq4 : w4.heap[q]? = some (.cells #[.map (some mb), .slice oa' (m + n) c', .int .i64 st] 120 (0, 0)) := by rw [hw4]; exact heap_setCell_here _ (HH3.out.trans HH.out)
    rw [← hw4]
    have hvq : ∀ k, (Value.slice oa' (m + n) c').ownBlock = some k → k ≠ q := fun k hk => by
      rcases HOWN.out with h5 | h5
      · exact HQV.out k (by rw [← h5]; exact hk)
      · rw [h5] at hk
        simp only [Option.some.injEq] at hk
        omega
    have hr4 : rowAt w4 98 2 (.slice oa' (m + n) c') (d.fates ++ l).length (fateCells (d.fates ++ l)) := by
      rw [← fateCells_append, List.length_append, HBB.out.2.2, hn]
      exact HR.out.kept (fun k hk => hset.block k (HR.out.lt k hk) (hvq k hk))
    have ho : Only (fun k => k = q ∨ (Value.slice oaf d.fates.length cf).ownBlock = some k) w1 w4 := (Only.of_grown (S := fun k => k = q ∨ (Value.slice oaf d.fates.length cf).ownBlock = some k) HG.out (fun k hk => .inr (by rw [HBB.out.2.2]; exact hk))).trans hset (fun i _ hi => .inl hi)
    have h5 := H1.out.fates_turn (fs' := d.fates ++ l) (st' := st) ho hq4 (fun k hk => by
      rcases HOWN.out with h6 | h6
      · exact .inl (by rw [HBB.out.2.2, ← h6]; exact hk)
      · have h7 := HR.out.lt k hk
        rw [h6] at hk
        simp only [Option.some.injEq] at hk
        have := hset.size
        exact .inr ⟨by omega, by omega⟩) hr4
    have e : d.feed l = (0, { d with fates := d.fates ++ l, steps := st }) := by
      simp only [Dk.feed, HBB.out.1]
      rw [if_neg (by simp), ← HBB.out.2.1]
    rw [e]
    refine ⟨rfl, ⟨mb, _, _, h5.wider (fun k hk => ?_) (fun k hk => ?_)⟩, ?_⟩
    · rcases hk with hk | hk
      · exact .inl hk
      · exact .inr ⟨Nat.le_trans HOB.out.size hk.1, hk.2⟩
    · rcases hk with hk | hk
      · exact Nat.lt_of_lt_of_le (H1.out.low k hk) ho.size
      · exact hk.2
    · exact (HOB.out.mono (fun i _ hi => by rw [hi]; exact H1.out.q_mem)).trans ho (fun i _ hi => by
        rcases hi with hi | hi
        · rw [hi]; exact H1.out.q_mem
        · exact H1.out.foot i (by simp [diskBlocks, hi]))
end Go.Proofs.YtlgcoaeddeiegaaGreat
