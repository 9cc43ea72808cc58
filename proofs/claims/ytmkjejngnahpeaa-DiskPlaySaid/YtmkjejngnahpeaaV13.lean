/- The texts Ks in one. -/
import Derived.Test.YtmkjejngnahpeaaV12
import Derived.Test.YtmkjejngnahpeaaV7
import Derived.Deep.CutBlock
import Derived.BigRegion
import Derived.Deep.RegionHeldLaw
/- The document's disk: Crash. -/
namespace Go.Proofs.Ytmkjejngnahpeaa
open Go Go.Maps Go.RowKit
open Go.Proofs (encStr)

theorem RcI.file {w W w3 : World} {b9 t m : Nat} {pv ov fv : Value} {s : RcS} {f : F0} {oa3 : Option Addr} {c3 : Nat} (h : RcI w W b9 pv ov fv s) (hr : NewRow w w3 (.slice oa3 t c3) (s.fl ++ [cutF f m])) (hk : KeepT [200] W w3) :
    w3.heap[b9]? = some (.cells #[fv, .slice none 0 0, .int .i64 0] 198 (0, 0)) ∧ RcI w (w3.setCell ⟨b9, 0, none⟩ (.slice oa3 t c3)) b9 pv ov (.slice oa3 t c3) (rcFile s f m) := by
  have hb3 := (hk b9 _ _ _ h.box (by decide)).trans h.box
  have row : ∀ {v : Value} {n : Nat} {xs : List Value}, rowAt W 3 1 v n xs → rowAt (w3.setCell ⟨b9, 0, none⟩ (.slice oa3 t c3)) 3 1 v n xs := fun {v n xs} hv => hv.kept (fun k hk1 => by
    rcases hv.2 with ⟨e, _⟩ | ⟨g, off, cap, cur, fr, e, hgg, _⟩
    · rw [e] at hk1
      simp [Value.ownBlock] at hk1
    · rw [e] at hk1
      simp only [Value.ownBlock, Option.some.injEq] at hk1
      subst hk1
      refine (Below.heap_setCell _ _ _ _ (fun e2 => ?_)).trans (hk g _ _ _ hgg (by decide))
      dsimp only at e2
      rw [e2, h.box] at hgg
      simp only [Option.some.injEq, Obj.cells.injEq] at hgg
      exact absurd hgg.2.1 (by decide))
  refine ⟨hb3, row h.prow, row h.orow, h.apart, h.plow, h.olow, heap_setCell_here _ hb3, ⟨hr.row.kept (fun k hk1 => Below.heap_setCell _ _ _ _ (fun e => ?_)), hr.own, hr.below.setCell (p := ⟨b9, 0, none⟩) h.low _⟩, h.low⟩
  dsimp only at e
  rw [e] at hk1
  exact absurd (row_type hr.row hk1 hb3) (by decide)
/-- a file is appended to such a row, at a step of a region that draws -/
theorem step_append_rf {w0 V : World} {ops : Array Oper} {o : Oper} {a : Act} {K : Act → World → Prop} {Q : Exit → Act → World → Prop} {E : Prop}
    (hg : o.guard = none) (s x : Operand) (ho : o.op = .call { callee := .builtin .append, args := #[s, x], argTypes := #[196, 196] })
    {oa : Option Addr} {m c : Nat} {l : List F0} (h : NewRow w0 V (.slice oa m c) l) {ob : Option Addr} {cb : Nat} {f' : F0} (hr : readAt V 5 (.slice ob 1 cb) 1 (rfCells [f'])) (hm : m ≤ 10000)
    (hs : a.eval s = .slice oa m c) (hx : a.eval x = .slice ob 1 cb)
    (hK : ∀ oa3 c3 w3, Hid (NewRow w0 w3 (.slice oa3 (m + 1) c3) (l ++ [f'])) → Hid (KeepT [200] V w3) → Hid (∀ k, k < V.heap.size → (Value.slice oa m c).ownBlock ≠ some k → w3.heap[k]? = V.heap[k]?) → K (a.put o.dst (.slice oa3 (m + 1) c3)) w3) :
    if Region.wanted o (yielded ops a.tmps) = true then Oper.wp Try.prog o a V K Q else E := by
  have hw : Region.wanted o (yielded ops a.tmps) = true := by simp [Region.wanted, hg]
  rw [if_pos hw]
  have hl := h.len
  have hrow := h.row
  rw [hl] at hrow
  obtain ⟨i, hi, hz, hsz, hby⟩ := info_parts info_rfile
  obtain ⟨v', w', hrun, r1, r2, r3, r4⟩ := run_append_at (P := Try.prog) V 196 196 o.type 200 i _ 5 48 Try.underlying196 hi hz hsz hby rfl _ m _ hrow _ 1 _ (Src.of_read Try.underlying196 hr (rfCells_one [f'])) (by unfold maxLen; omega) (by omega)
  obtain ⟨oa3, c3, rfl, _⟩ := r1.shape
  unfold Oper.wp
  simp [execOp, ho, resolve, invoke, builtin, hs, hx, hrun, Result.andThen]
  refine hK oa3 c3 w' (Lib.hid ⟨?_, ?_, ?_⟩) (Lib.hid (KeepT.grown hrow (by simp) r2)) (Lib.hid (fun k hk hne => r2.block k hk (fun e => hne e.symm)))
  · rw [List.length_append, hl, rfCells_append]
    exact r1
  · intro j hj
    rcases r3 with h1 | h1
    · exact h.own j (by rw [← h1]; exact hj)
    · rw [hj] at h1
      simp only [Option.some.injEq] at h1
      have := h.below.size
      omega
  · exact h.below.grown r2 h.below.size (fun k hk' => h.own k hk')
theorem hold2 {V V' : World} {b : Nat} {u1 u2 : Value} (h : V.cell? ⟨b, 0, none⟩ = some u1 ∧ V.cell? ⟨b, 1, none⟩ = some u2) (hb : V'.heap[b]? = V.heap[b]?) : V'.cell? ⟨b, 0, none⟩ = some u1 ∧ V'.cell? ⟨b, 1, none⟩ = some u2 := by
  unfold World.cell? at h ⊢
  simp only [hb]
  exact h
theorem hold2_alloc {V : World} {b : Nat} {u1 u2 : Value} (h : V.cell? ⟨b, 0, none⟩ = some u1 ∧ V.cell? ⟨b, 1, none⟩ = some u2) (o : Obj) : (V.alloc o).cell? ⟨b, 0, none⟩ = some u1 ∧ (V.alloc o).cell? ⟨b, 1, none⟩ = some u2 :=
  hold2 h (Below.heap_alloc _ _ _ (World.block_lt_of_cell? _ _ h.1))
theorem hold2_app {V V' : World} {b : Nat} {u1 u2 v : Value} (h : V.cell? ⟨b, 0, none⟩ = some u1 ∧ V.cell? ⟨b, 1, none⟩ = some u2) (hk : ∀ k, k < V.heap.size → v.ownBlock ≠ some k → V'.heap[k]? = V.heap[k]?) (hne : v.ownBlock ≠ some b) : V'.cell? ⟨b, 0, none⟩ = some u1 ∧ V'.cell? ⟨b, 1, none⟩ = some u2 :=
  hold2 h (hk _ (World.block_lt_of_cell? _ _ h.1) hne)
theorem hold2_set {V : World} {b b9 : Nat} {u1 u2 v : Value} (h : V.cell? ⟨b, 0, none⟩ = some u1 ∧ V.cell? ⟨b, 1, none⟩ = some u2) (hne : b ≠ b9) : (V.setCell ⟨b9, 0, none⟩ v).cell? ⟨b, 0, none⟩ = some u1 ∧ (V.setCell ⟨b9, 0, none⟩ v).cell? ⟨b, 1, none⟩ = some u2 :=
  hold2 h (Below.heap_setCell _ _ _ _ (fun e => hne e))
theorem pickAt_in {ps : List Int} {k m : Nat} (h : k < ps.length) : pickAt ps k m = ps[k].toNat % m := by
  unfold pickAt
  rw [List.drop_eq_getElem_cons h]
  rfl
theorem pickAt_out {ps : List Int} {k m : Nat} (h : ps.length ≤ k) : pickAt ps k m = 0 := by
  unfold pickAt
  rw [List.drop_eq_nil_iff.2 h]
  rfl
theorem pickAt_lt (ps : List Int) (k m : Nat) (h : 0 < m) : pickAt ps k m < m := nextP_lt m _ h
/-- what the document's Crash answers -/
def RCrashIs (w : World) (d : Dk) (ps : List Int) (e : Ending) (w' : World) : Prop :=
  (¬ AllGe ps ∧ e = .returned (.tuple #[.pointer none, .slice none 0 0, .slice none 0 0, .int .i64 2]) ∧ Below w.heap.size w w') ∨
  (AllGe ps ∧ ∃ b op mp cp oo mo co fv, e = .returned (.tuple #[.pointer (some ⟨b, 0, none⟩), .slice op mp cp, .slice oo mo co, .int .i64 0]) ∧ (rcT d.files ps).out.length = mp ∧ (rcT d.files ps).of.length = mo ∧ RcI w w' b (.slice op mp cp) (.slice oo mo co) fv (rcT d.files ps))
/-- what holds at a round's head -/
def RcRel (w : World) (b9 : Nat) (l : List F0) (ps : List Int) (pv ov i : Value) (wr : World) : Prop :=
  ∃ (j mp mo : Nat) (op : Option Addr) (cp : Nat) (oo : Option Addr) (co : Nat) (fv : Value), j ≤ l.length ∧ i = .int .i64 j ∧ pv = .slice op mp cp ∧ ov = .slice oo mo co ∧ mp ≤ 2 * j ∧ mo ≤ 2 * j ∧ Hid ((rcT (l.take j) ps).out.length = mp ∧ (rcT (l.take j) ps).of.length = mo) ∧ Hid (RcI w wr b9 (.slice op mp cp) (.slice oo mo co) fv (rcT (l.take j) ps))
set_option maxRecDepth 100000 in
set_option maxHeartbeats 8000000 in
theorem refCrash_b {w : World} {S : Nat → Prop} {p : Nat} {d : Dk} (h : RfAt w S p d) {oa : Option Addr} {n c : Nat} {ps : List Int} (hn : ps.length = n) (hp : readAt w 1 (.slice oa n c) n (intCells ps)) (hm : n ≤ 1000000) (hmx : ∀ x ∈ ps, x ≤ 9223372036854775807) :
    Calls Try.prog 66 #[.pointer (some ⟨p, 0, none⟩), .slice oa n c] w fun e w' => RCrashIs w d ps e w' := by
  obtain ⟨rv, fv, h⟩ := h
  obtain ⟨og, cg, rfl, hnc⟩ := h.files.shape
  obtain ⟨N, hN⟩ : ∃ N, d.files.length = N := ⟨_, rfl⟩
  have hN4 : N ≤ 4096 := by rw [← hN]; exact h.few
  have hrow := h.files
  have hhd := h.head
  rw [hN] at hrow hhd
  have H := Lib.hid (And.intro hhd (And.intro hrow h.sizes))
  have hone : ∀ (x : Int), ∀ v ∈ ([.int .i64 x] : List Value), v.oneCell' = true := fun x v hv => by
    rw [List.mem_singleton] at hv
    subst hv
    rfl
  have HONE := Lib.hid hone
  clear hone
  have HN := Lib.hid hN
  have HP := Lib.hid (And.intro hn (And.intro hp hmx))
  clear h hrow hhd hN hnc hn hp hmx
  go_enter Try.func66, Try.ntmps66
  go_wp2_with fail
  go_loop [8] (fun i => ∃ j : Nat, j ≤ n ∧ i = .int .i64 j ∧ Hid (AllGe (ps.take j))) (fun i => n - (intOf i).toNat)
  case atStart => exact ⟨0, Nat.zero_le _, rfl, Lib.hid (fun x hx => by simp at hx)⟩
  case round =>
    obtain ⟨j, hj, rfl, HG⟩ := hrel
    by_cases hlt : j < n
    · have hjl : j < ps.length := by rw [HP.out.1]; exact hlt
      obtain ⟨x, hx⟩ : ∃ x, ps[j] = x := ⟨_, rfl⟩
      obtain ⟨g, off, rfl⟩ := HP.out.2.1.addr (by omega)
      have k1 : w.cell? ⟨g, off + j, none⟩ = some (.int .i64 x) := HP.out.2.1.cellAt (i := j) (by unfold intCells; rw [List.getElem?_map, List.getElem?_eq_getElem hjl, hx]; rfl)
      by_cases hneg : x < 0
      · have hd : decide (x < 0) = true := decide_eq_true hneg
        have HNG : Hid (¬ AllGe ps) := Lib.hid (fun hge => by
          have := hge x (by rw [← hx]; exact List.getElem_mem hjl)
          omega)
        clear hjl hx
        go_wp2_with fail
        first | rw [Exit.noGoto_ret] | skip
        exact bodyPost_ret (v := .tuple #[.pointer none, .slice none 0 0, .slice none 0 0, .int .i64 2]) (by simp [results, Try.results66, go_sem]) rfl (.inl ⟨HNG.out, rfl, Below.refl _ _⟩)
      · have hd : decide (x < 0) = false := decide_eq_false hneg
        have HG2 : Hid (AllGe (ps.take (j + 1))) := Lib.hid (fun y hy => by
          rw [List.take_succ_eq_append_getElem hjl] at hy
          rcases List.mem_append.1 hy with h1 | h1
          · exact HG.out y h1
          · rw [List.mem_singleton, hx] at h1
            omega)
        clear hjl hx
        go_wp2_with fail
        exact ⟨⟨j + 1, by omega, by simp, HG2⟩, by simp [intOf]; omega⟩
    · obtain rfl : j = n := by omega
      have HGE : Hid (AllGe ps) := Lib.hid (by
        have h1 := HG.out
        rwa [List.take_of_length_le (by rw [HP.out.1]; exact Nat.le_refl _)] at h1)
      go_upto_region 7 with fail
      obtain ⟨w2, hw2⟩ : ∃ V : World, V = w.alloc (.cells #[.slice none 0 0, .slice none 0 0, .int .i64 0] 198) := ⟨_, rfl⟩
      obtain ⟨b9, hb9⟩ : ∃ b, b = w.heap.size := ⟨_, rfl⟩
      have hbx : w2.heap[b9]? = some (.cells #[.slice none 0 0, .slice none 0 0, .int .i64 0] 198 (0, 0)) := by rw [hw2, hb9]; exact alloc_cells _ _ _
      have hbl : Below w.heap.size w w2 := by rw [hw2]; exact (Below.refl _ _).alloc (Nat.le_refl _) _
      have hnone : ∀ k, (Value.slice none 0 0).ownBlock = some k → False := fun k hk => by simp [Value.ownBlock] at hk
      have HI0 : Hid (RcI w w2 b9 (.slice none 0 0) (.slice none 0 0) (.slice none 0 0) ⟨[], [], []⟩) := Lib.hid ⟨⟨by simp [natCells], .inl ⟨rfl, rfl⟩⟩, ⟨by simp [natCells], .inl ⟨rfl, rfl⟩⟩, fun k hk => (hnone k hk).elim, fun k hk => (hnone k hk).elim, fun k hk => (hnone k hk).elim, hbx, NewRow.nil hbl, by omega⟩
      rw [← hw2, ← hb9]
      clear hw2 hb9 hbx hbl hnone HG
      go_wp2_with fail
      go_loopw [10, 11, 12] (fun pv ov i wr => RcRel w b9 d.files ps pv ov i wr) (fun _ _ i wr => N - (intOf i).toNat)
      case atStart => exact ⟨0, 0, 0, none, 0, none, 0, .slice none 0 0, Nat.zero_le _, rfl, rfl, rfl, Nat.le_refl _, Nat.le_refl _, Lib.hid ⟨rfl, rfl⟩, HI0⟩
      case round =>
        obtain ⟨i, mp, mo, op, cp, oo, co, fv2, hi, rfl, rfl, rfl, hmp, hmo, HL, HI⟩ := hrel
        rw [HN.out] at hi
        have c0 : wr.cell? ⟨p, 0, none⟩ = some (.slice og N cg) := cell_of ((HI.out.files.below.block p (Array.getElem?_eq_some_iff.1 H.out.1).1).trans H.out.1) rfl
        by_cases hlt2 : i < N
        · have hjf : i < d.files.length := by rw [HN.out]; exact hlt2
          have hrw := H.out.2.1.kept (fun k hk => HI.out.files.below.block k (H.out.2.1.lt k hk))
          obtain ⟨g, off, rfl⟩ := hrw.addr (by omega)
          obtain ⟨f, hf⟩ : ∃ x, d.files[i] = x := ⟨_, rfl⟩
          have hsz := H.out.2.2 f (by rw [← hf]; exact List.getElem_mem _)
          obtain ⟨x0, hx0⟩ : ∃ a : ByteArray, a = ⟨f.name.toArray⟩ := ⟨_, rfl⟩
          obtain ⟨x1, hx1⟩ : ∃ a : ByteArray, a = ⟨f.bytes.toArray⟩ := ⟨_, rfl⟩
          obtain ⟨la, hx2⟩ : ∃ a : Nat, a = f.lasts := ⟨_, rfl⟩
          obtain ⟨x3, hx3⟩ : ∃ a, a = f.there := ⟨_, rfl⟩
          obtain ⟨x4, hx4⟩ : ∃ a, a = f.named := ⟨_, rfl⟩
          have hlb : x1.size = f.bytes.length := by rw [hx1]; rfl
          have hxc : rfFile f = [.string x0, .string x1, .int .i64 la, .bool x3, .bool x4] := by
            unfold rfFile
            rw [hx0, hx1, hx2, hx3, hx4]
          have k0 : wr.cell? ⟨g, off + i * 5, none⟩ = some (.string x0) := rf_cell (i := 0) hrw hjf (by omega) (by rw [hf, hxc]; rfl)
          have k1 : wr.cell? ⟨g, off + i * 5 + 1, none⟩ = some (.string x1) := rf_cell (i := 1) hrw hjf (by omega) (by rw [hf, hxc]; rfl)
          have k2 : wr.cell? ⟨g, off + i * 5 + 2, none⟩ = some (.int .i64 la) := rf_cell (i := 2) hrw hjf (by omega) (by rw [hf, hxc]; rfl)
          have k3 : wr.cell? ⟨g, off + i * 5 + 3, none⟩ = some (.bool x3) := rf_cell (i := 3) hrw hjf (by omega) (by rw [hf, hxc]; rfl)
          have k4 : wr.cell? ⟨g, off + i * 5 + 4, none⟩ = some (.bool x4) := rf_cell (i := 4) hrw hjf (by omega) (by rw [hf, hxc]; rfl)
          have hst := rcT_succ (ps := ps) hjf
          rw [hf] at hst
          obtain ⟨s, hs⟩ : ∃ s, rcT (d.files.take i) ps = s := ⟨_, rfl⟩
          rw [hs] at hst HL HI
          have HST := Lib.hid hst
          have HST' := HST
          have hls : la ≤ x1.size ∧ x1.size ≤ 16777216 := by rw [hlb, hx2]; exact hsz
          obtain ⟨lb, hlbe⟩ : ∃ b, x1.size = b := ⟨_, rfl⟩
          have HF : Hid ((unsF f).name = (!x3 || !x4) ∧ (unsF f).more = (if x3 = true then lb - la else 0) ∧ x0 = ⟨f.name.toArray⟩ ∧ x1 = ⟨f.bytes.toArray⟩ ∧ la = f.lasts) := Lib.hid ⟨by rw [hx3, hx4]; rfl, by rw [← hlbe, hlb, hx2, hx3]; rfl, hx0, hx1, hx2⟩
          rw [hlbe] at hls
          have HFL : Hid (s.fl.length ≤ i) := Lib.hid (by
            have h1 := (rcT_len (d.files.take i) ps ⟨[], [], []⟩).2.2
            have h2 : (d.files.take i).foldl (rcStep ps) ⟨[], [], []⟩ = s := hs
            rw [h2, List.length_take] at h1
            simp only [List.length_nil] at h1
            omega)
          clear hst hf hsz hx0 hx1 hx2 hx3 hx4 hlb hxc hrw hjf hs
          go_upto_region 12 with fail
          obtain ⟨w6, hw6⟩ : ∃ V : World, V = wr.alloc (.cells #[.string x0, .string x1, .int .i64 la, .bool x3, .bool x4] 200) := ⟨_, rfl⟩
          obtain ⟨b13, hb13⟩ : ∃ b, b = wr.heap.size := ⟨_, rfl⟩
          have h6 : w6.heap[b13]? = some (.cells #[.string x0, .string x1, .int .i64 la, .bool x3, .bool x4] 200 (0, 0)) := by rw [hw6, hb13]; exact alloc_cells _ _ _
          have hb6 : Below wr.heap.size wr w6 := by rw [hw6]; exact (Below.refl _ _).alloc (Nat.le_refl _) _
          have H13 : Hid (fv2.ownBlock ≠ some b13) := Lib.hid (fun e => by have := HI.out.files.row.lt b13 e; omega)
          have HI6 := Lib.hid (HI.out.kept hb6)
          have HX6 := Lib.hid h6
          have y1 : w6.cell? ⟨b13, 1, none⟩ = some (.string x1) := cell_of h6 rfl
          have y2 : w6.cell? ⟨b13, 2, none⟩ = some (.int .i64 la) := cell_of h6 rfl
          have y3 : w6.cell? ⟨b13, 3, none⟩ = some (.bool x3) := cell_of h6 rfl
          have y4 : w6.cell? ⟨b13, 4, none⟩ = some (.bool x4) := cell_of h6 rfl
          rw [← hw6, ← hb13]
          clear hw6 hb13 h6 hb6 k0 k1 k2 k3 k4 c0
          obtain ⟨bn, hbn⟩ : ∃ b, (!x3 || !x4) = b := ⟨_, rfl⟩
          go_cut [54] from 47 to 54 (fun s wx => s = .bool bn ∧ wx = w6)
          case first =>
            cases x3 <;> cases x4 <;> (subst hbn; go_wp2_with fail; go_meet; exact ⟨rfl, rfl⟩)
          case rest =>
            have hnm := HF.out.1
            rw [hbn] at hnm
            have HNM := Lib.hid hnm
            obtain ⟨rfl, hwx⟩ := hcut
            rw [hwx]
            clear hbn hwx y3 y4 hnm
            obtain ⟨sA, hsA⟩ : ∃ sA, (rcName ps s f).2 = sA := ⟨_, rfl⟩
            go_upto_if 54 with fail
            go_cut [10, 11, 14] from 55 to 74 (fun s10 s11 _ wx => ∃ op' mp' cp' oo' mo' co', s10 = .slice op' mp' cp' ∧ s11 = .slice oo' mo' co' ∧ mp' ≤ 2 * i + 1 ∧ mo' ≤ 2 * i + 1 ∧ Hid (sA.out.length = mp' ∧ sA.of.length = mo' ∧ (rcName ps s f).1 = true) ∧ Hid (RcI w wx b9 (.slice op' mp' cp') (.slice oo' mo' co') fv2 sA) ∧ Hid (wx.heap[b13]? = some (.cells #[.string x0, .string x1, .int .i64 la, .bool x3, .bool x4] 200 (0, 0))))
            case first =>
              cases bn
              · have hsA2 : sA = s ∧ (rcName ps s f).1 = true := by
                  rw [← hsA]
                  unfold rcName
                  rw [if_neg (by rw [HNM.out]; simp)]
                  exact ⟨rfl, rfl⟩
                have HSA := Lib.hid hsA2
                clear hsA2 hsA
                go_wp2_with fail
                go_meet
                rw [HSA.out.1]
                exact ⟨op, mp, cp, oo, mo, co, rfl, rfl, by omega, by omega, Lib.hid ⟨HL.out.1, HL.out.2, HSA.out.2⟩, HI6, HX6⟩
              · have hsn : rcName ps s f = (decide (pickAt ps s.out.length 2 ≠ 0), ⟨s.fl, s.out ++ [pickAt ps s.out.length 2], s.of ++ [2]⟩) := by
                  unfold rcName
                  rw [if_pos HNM.out]
                obtain ⟨pk, hpk⟩ : ∃ k, pickAt ps s.out.length 2 = k := ⟨_, rfl⟩
                rw [hpk] at hsn
                have hpk2 : pk < 2 := by rw [← hpk]; exact pickAt_lt _ _ _ (by omega)
                rw [HL.out.1] at hpk
                have HSN := Lib.hid hsn
                obtain ⟨bi, hbi⟩ : ∃ b, decide ((mp : Int) < (j : Int)) = b := ⟨_, rfl⟩
                have HBI := Lib.hid hbi
                have HPK := Lib.hid hpk
                have HSA := Lib.hid hsA
                clear hsn hpk hsA
                go_upto_if 59 with fail
                go_cut [14] from 60 to 65 (fun s14 wx => s14 = .int .i64 (pk : Int) ∧ wx = w6)
                case first =>
                  cases bi
                  · have hge : j ≤ mp := by have := HBI.out; simp at this; exact this
                    have hz : pk = 0 := by rw [← HPK.out]; exact pickAt_out (by rw [HP.out.1]; exact hge)
                    subst hz
                    go_wp2_with fail
                    go_meet
                    exact ⟨rfl, rfl⟩
                  · have hlt3 : mp < j := by have := HBI.out; simp at this; exact this
                    have hml : mp < ps.length := by rw [HP.out.1]; exact hlt3
                    obtain ⟨x, hx⟩ : ∃ x, ps[mp] = x := ⟨_, rfl⟩
                    have hx0 : 0 ≤ x := HGE.out x (by rw [← hx]; exact List.getElem_mem hml)
                    have hxm : x ≤ 9223372036854775807 := HP.out.2.2 x (by rw [← hx]; exact List.getElem_mem hml)
                    obtain ⟨y, rfl⟩ : ∃ y : Nat, x = (y : Int) := ⟨x.toNat, by omega⟩
                    have hpy : pk = y % 2 := by rw [← HPK.out, pickAt_in hml, hx]; simp
                    have hpr : readAt w6 1 (.slice oa j c) j (intCells ps) := HP.out.2.1.kept (fun k hk _ _ => HI6.out.files.below.block k hk)
                    obtain ⟨g2, off2, rfl⟩ := hpr.addr (by omega)
                    have kp : w6.cell? ⟨g2, off2 + mp, none⟩ = some (.int .i64 (y : Int)) := hpr.cellAt (i := mp) (by unfold intCells; rw [List.getElem?_map, List.getElem?_eq_getElem hml, hx]; rfl)
                    have HPY := Lib.hid hpy
                    clear hml hx hpy hpr hx0 hbi
                    go_wp2_with fail
                    go_meet
                    refine ⟨?_, rfl⟩
                    rw [HPY.out]
                    simp
                case rest =>
                  obtain ⟨rfl, hwx⟩ := hcut
                  rw [hwx]
                  clear hwx hbi
                  have hprow : rowAt w6 3 1 (.slice op mp cp) mp (natCells s.out) := by have := HI6.out.prow; rwa [HL.out.1] at this
                  have HPR := Lib.hid hprow
                  clear hprow
                  by_cases hz : pk = 0
                  · have hd : ((pk : Int) == 0) = true := by rw [beq_iff_eq]; omega
                    have HZ := Lib.hid hz
                    clear hz
                    go_wp2_with (at_builtin; first | (refine wpList_append_one rfl (.tmp 66) (.tmp 68) 32 3 rfl Try.underlying32 info_int rfl (by omega) HPR.out (by omega) [.int .i64 (pk : Int)] rfl (HONE.out _) (by rfl) (by rfl) ?_; intro oa7 c7 w7 HR7 HG7 HO7; have HI7 := Lib.hid (RcI.plain HI6.out HL.out.1 HR7.out HG7.out HO7.out); have horow : rowAt w7 3 1 (.slice oo mo co) mo (natCells s.of) := (by have := HI7.out.orow; rwa [HL.out.2] at this); have HOR := Lib.hid horow; clear horow) | (refine wpList_append_one rfl (.tmp 70) (.tmp 71) 32 3 rfl Try.underlying32 info_int rfl (by omega) HOR.out (by omega) [.int .i64 2] rfl (HONE.out _) (by rfl) (by rfl) ?_; intro oa8 c8 w8 HR8 HG8 HO8; have HI8 := Lib.hid (RcI.ofs (x := 2) HI7.out HL.out.2 (by have h := HR8.out; exact h) HG8.out HO8.out)))
                    have hstep : rcStep ps s f = ⟨s.fl, s.out ++ [pk], s.of ++ [2]⟩ := by
                      unfold rcStep
                      rw [HSN.out]
                      simp [HZ.out]
                    have hi8 := HI8.out
                    have hrel : RcRel w b9 d.files ps (.slice oa7 (mp + 1) c7) (.slice oa8 (mo + 1) c8) (.int .i64 ((i : Int) + 1)) w8 := by
                      refine ⟨i + 1, mp + 1, mo + 1, oa7, c7, oa8, c8, fv2, by rw [HN.out]; omega, by simp, rfl, rfl, by omega, by omega, Lib.hid ?_, Lib.hid ?_⟩
                      · rw [HST.out, hstep]
                        simp [HL.out.1, HL.out.2]
                      · rw [HST.out, hstep]
                        exact hi8
                    exact ⟨hrel, by simp [intOf]; omega⟩
                  · have hd : ((pk : Int) == 0) = false := by rw [beq_eq_false_iff_ne]; omega
                    go_wp2_with (at_builtin; first | (refine wpList_append_one rfl (.tmp 66) (.tmp 68) 32 3 rfl Try.underlying32 info_int rfl (by omega) HPR.out (by omega) [.int .i64 (pk : Int)] rfl (HONE.out _) (by rfl) (by rfl) ?_; intro oa7 c7 w7 HR7 HG7 HO7; have HI7 := Lib.hid (RcI.plain HI6.out HL.out.1 HR7.out HG7.out HO7.out); have horow : rowAt w7 3 1 (.slice oo mo co) mo (natCells s.of) := (by have := HI7.out.orow; rwa [HL.out.2] at this); have HOR := Lib.hid horow; clear horow) | (refine wpList_append_one rfl (.tmp 70) (.tmp 71) 32 3 rfl Try.underlying32 info_int rfl (by omega) HOR.out (by omega) [.int .i64 2] rfl (HONE.out _) (by rfl) (by rfl) ?_; intro oa8 c8 w8 HR8 HG8 HO8; have HI8 := Lib.hid (RcI.ofs (x := 2) HI7.out HL.out.2 (by have h := HR8.out; exact h) HG8.out HO8.out)))
                    have hn1 : (rcName ps s f).1 = true := by rw [HSN.out]; simp [hz]
                    have hsA2 := HSA.out
                    rw [HSN.out] at hsA2
                    have hx8 : w8.heap[b13]? = some (.cells #[.string x0, .string x1, .int .i64 la, .bool x3, .bool x4] 200 (0, 0)) := by
                      have h7 := (grown_other HG7.out b13 (Array.getElem?_eq_some_iff.1 HX6.out).1 (fun e => absurd (row_type HPR.out e HX6.out) (by decide))).trans HX6.out
                      exact (grown_other HG8.out b13 (Array.getElem?_eq_some_iff.1 h7).1 (fun e => absurd (row_type HOR.out e h7) (by decide))).trans h7
                    have hi8 := HI8.out
                    go_meet
                    rw [← hsA2]
                    exact ⟨oa7, mp + 1, c7, oa8, mo + 1, c8, rfl, rfl, by omega, by omega, Lib.hid ⟨by simp [HL.out.1], by simp [HL.out.2], hn1⟩, Lib.hid hi8, Lib.hid hx8⟩
            case rest =>
              obtain ⟨op2, mp2, cp2, oo2, mo2, co2, rfl, rfl, hmp2, hmo2, HLA, HIA, HXA⟩ := hcut
              have y1 : wc.cell? ⟨b13, 1, none⟩ = some (.string x1) := cell_of HXA.out rfl
              have y2 : wc.cell? ⟨b13, 2, none⟩ = some (.int .i64 la) := cell_of HXA.out rfl
              have y3 : wc.cell? ⟨b13, 3, none⟩ = some (.bool x3) := cell_of HXA.out rfl
              obtain ⟨z0, hz0⟩ : ∃ z : Nat, lb - la = z := ⟨_, rfl⟩
              have HSA := Lib.hid hsA
              obtain ⟨wq, hwq⟩ : ∃ V, V = wc := ⟨_, rfl⟩
              rw [← hwq] at y1 y2 y3 HIA HXA ⊢
              clear hsA HI6 HX6 hwq
              go_upto_region 20 with fail
              go_cut [16] from 77 to 82 (fun s16 wx => s16 = .int .i64 (z0 : Int) ∧ wx = wq)
              case first =>
                go_wp2_with fail
                go_meet
                refine ⟨?_, rfl⟩
                congr 1
                omega
              case rest =>
                obtain ⟨rfl, hwx⟩ := hcut
                rw [hwx]
                clear hwx
                obtain ⟨bm, hbm⟩ : ∃ b, (x3 && decide (0 < z0)) = b := ⟨_, rfl⟩
                go_upto_region 21 with fail
                go_cut [88] from 83 to 88 (fun s wx => s = .bool bm ∧ wx = wq)
                case first =>
                  cases x3
                  · subst hbm
                    go_wp2_with fail
                    go_meet
                    exact ⟨rfl, rfl⟩
                  · have hd : decide ((0 : Int) < (z0 : Int)) = bm := by rw [← hbm]; simp
                    go_wp2_with fail
                    go_meet
                    exact ⟨rfl, rfl⟩
                case rest =>
                  obtain ⟨rfl, hwx⟩ := hcut
                  rw [hwx]
                  clear hwx y1 y2 y3
                  have hmore : (unsF f).more = if bm = true then z0 else 0 := by
                    rw [HF.out.2.1, hz0, ← hbm]
                    cases x3
                    · rfl
                    · by_cases h0 : 0 < z0
                      · simp [h0]
                      · have : z0 = 0 := by omega
                        simp [this]
                  have hbz : bm = true → 0 < z0 := fun hb => by
                    rw [hb] at hbm
                    simp at hbm
                    exact hbm.2
                  have HMO := Lib.hid (And.intro hmore hbz)
                  obtain ⟨m, hm2⟩ : ∃ m, (rcMore ps sA f).1 = m := ⟨_, rfl⟩
                  obtain ⟨sB, hsB⟩ : ∃ s, (rcMore ps sA f).2 = s := ⟨_, rfl⟩
                  have HB := Lib.hid (And.intro hm2 hsB)
                  clear hmore hbz hbm hm2 hsB
                  go_upto_if 88 with fail
                  go_cut [10, 11, 15, 17] from 89 to 113 (fun s10 s11 s15 _ wx => ∃ op3 mp3 cp3 oo3 mo3 co3, s10 = .slice op3 mp3 cp3 ∧ s11 = .slice oo3 mo3 co3 ∧ s15 = .int .i64 ((la + m : Nat) : Int) ∧ mp3 ≤ 2 * i + 2 ∧ mo3 ≤ 2 * i + 2 ∧ Hid (sB.out.length = mp3 ∧ sB.of.length = mo3 ∧ la + m ≤ lb) ∧ Hid (RcI w wx b9 (.slice op3 mp3 cp3) (.slice oo3 mo3 co3) fv2 sB) ∧ Hid (wx.heap[b13]? = some (.cells #[.string x0, .string x1, .int .i64 la, .bool x3, .bool x4] 200 (0, 0))))
                  case first =>
                    cases bm
                    · have hr : rcMore ps sA f = (0, sA) := by
                        unfold rcMore
                        rw [if_neg (by rw [HMO.out.1]; simp)]
                      have hb := HB.out
                      rw [hr] at hb
                      have HBB := Lib.hid hb
                      clear hr hb
                      go_wp2_with fail
                      go_meet
                      rw [← HBB.out.1, ← HBB.out.2]
                      exact ⟨op2, mp2, cp2, oo2, mo2, co2, rfl, rfl, by simp, by omega, by omega, Lib.hid ⟨HLA.out.1, HLA.out.2.1, by omega⟩, HIA, HXA⟩
                    · have hz1 : (unsF f).more = z0 := by rw [HMO.out.1, if_pos rfl]
                      have hr : rcMore ps sA f = (pickAt ps sA.out.length (z0 + 1), ⟨sA.fl, sA.out ++ [pickAt ps sA.out.length (z0 + 1)], sA.of ++ [z0 + 1]⟩) := by
                        unfold rcMore
                        rw [hz1, if_pos (HMO.out.2 rfl)]
                      have hb := HB.out
                      rw [hr] at hb
                      have hpk : pickAt ps mp2 (z0 + 1) = m := by rw [← HLA.out.1]; exact hb.1
                      have hml : m < z0 + 1 := by rw [← hpk]; exact pickAt_lt _ _ _ (by omega)
                      have hsB2 : sB = ⟨sA.fl, sA.out ++ [m], sA.of ++ [z0 + 1]⟩ := by rw [← hb.2, ← hb.1]
                      have HPK := Lib.hid (And.intro hpk hsB2)
                      obtain ⟨bi, hbi⟩ : ∃ b, decide (mp2 < j) = b := ⟨_, rfl⟩
                      have HBI := Lib.hid hbi
                      have hzl : z0 ≤ 16777216 := by omega
                      clear hz1 hr hb hpk hsB2
                      go_upto_if 93 with fail
                      go_cut [17] from 94 to 101 (fun s17 wx => s17 = .int .i64 (m : Int) ∧ wx = wq)
                      case first =>
                        cases bi
                        · have hge : j ≤ mp2 := by have := HBI.out; simp at this; exact this
                          have hz : m = 0 := by rw [← HPK.out.1]; exact pickAt_out (by rw [HP.out.1]; exact hge)
                          subst hz
                          go_wp2_with fail
                          go_meet
                          exact ⟨rfl, rfl⟩
                        · have hlt3 : mp2 < j := by have := HBI.out; simp at this; exact this
                          have hml2 : mp2 < ps.length := by rw [HP.out.1]; exact hlt3
                          obtain ⟨x, hx⟩ : ∃ x, ps[mp2] = x := ⟨_, rfl⟩
                          have hx0 : 0 ≤ x := HGE.out x (by rw [← hx]; exact List.getElem_mem hml2)
                          have hxm : x ≤ 9223372036854775807 := HP.out.2.2 x (by rw [← hx]; exact List.getElem_mem hml2)
                          obtain ⟨y, rfl⟩ : ∃ y : Nat, x = (y : Int) := ⟨x.toNat, by omega⟩
                          have hpy : m = y % (z0 + 1) := by rw [← HPK.out.1, pickAt_in hml2, hx]; simp
                          have hpr : readAt wq 1 (.slice oa j c) j (intCells ps) := HP.out.2.1.kept (fun k hk _ _ => HIA.out.files.below.block k hk)
                          obtain ⟨g2, off2, rfl⟩ := hpr.addr (by omega)
                          have kp : wq.cell? ⟨g2, off2 + mp2, none⟩ = some (.int .i64 (y : Int)) := hpr.cellAt (i := mp2) (by unfold intCells; rw [List.getElem?_map, List.getElem?_eq_getElem hml2, hx]; rfl)
                          have HPY := Lib.hid hpy
                          clear hml2 hx hpy hpr hx0 hbi
                          go_wp2_with fail
                          go_meet
                          refine ⟨?_, rfl⟩
                          rw [HPY.out]
                          simp
                      case rest =>
                        obtain ⟨rfl, hwx⟩ := hcut
                        rw [hwx]
                        clear hwx hbi
                        have hprow : rowAt wq 3 1 (.slice op2 mp2 cp2) mp2 (natCells sA.out) := by have := HIA.out.prow; rwa [HLA.out.1] at this
                        have HPR := Lib.hid hprow
                        clear hprow
                        go_wp2_with (at_builtin; first | (refine wpList_append_one rfl (.tmp 102) (.tmp 104) 32 3 rfl Try.underlying32 info_int rfl (by omega) HPR.out (by omega) [.int .i64 (m : Int)] rfl (HONE.out _) (by rfl) (by rfl) ?_; intro oa7 c7 w7 HR7 HG7 HO7; have HI7 := Lib.hid (RcI.plain HIA.out HLA.out.1 HR7.out HG7.out HO7.out); have horow : rowAt w7 3 1 (.slice oo2 mo2 co2) mo2 (natCells sA.of) := (by have := HI7.out.orow; rwa [HLA.out.2.1] at this); have HOR := Lib.hid horow; clear horow) | (refine wpList_append_one rfl (.tmp 106) (.tmp 109) 32 3 rfl Try.underlying32 info_int rfl (by omega) HOR.out (by omega) [.int .i64 ((z0 : Int) + 1)] rfl (HONE.out _) (by rfl) (by rfl) ?_; intro oa8 c8 w8 HR8 HG8 HO8; have HI8 := Lib.hid (RcI.ofs (x := z0 + 1) HI7.out HLA.out.2.1 (by have h := HR8.out; exact h) HG8.out HO8.out)))
                        have hx8 : w8.heap[b13]? = some (.cells #[.string x0, .string x1, .int .i64 la, .bool x3, .bool x4] 200 (0, 0)) := by
                          have h7 := (grown_other HG7.out b13 (Array.getElem?_eq_some_iff.1 HXA.out).1 (fun e => absurd (row_type HPR.out e HXA.out) (by decide))).trans HXA.out
                          exact (grown_other HG8.out b13 (Array.getElem?_eq_some_iff.1 h7).1 (fun e => absurd (row_type HOR.out e h7) (by decide))).trans h7
                        have hi8 := HI8.out
                        go_meet
                        rw [HPK.out.2]
                        exact ⟨oa7, mp2 + 1, c7, oa8, mo2 + 1, c8, rfl, rfl, by simp, by omega, by omega, Lib.hid ⟨by simp [HLA.out.1], by simp [HLA.out.2.1], by omega⟩, Lib.hid hi8, Lib.hid hx8⟩
                  case rest =>
                    obtain ⟨op3, mp3, cp3, oo3, mo3, co3, rfl, rfl, rfl, hmp3, hmo3, HLB, HIB, HXB⟩ := hcut
                    obtain ⟨wz, hwz⟩ : ∃ V, V = wc := ⟨_, rfl⟩
                    rw [← hwz] at HIB HXB ⊢
                    clear hwz HIA HXA
                    obtain ⟨E, hE⟩ : ∃ E, la + m = E := ⟨_, rfl⟩
                    rw [hE]
                    obtain ⟨nf, hnf⟩ : ∃ k, sB.fl.length = k := ⟨_, rfl⟩
                    obtain ⟨fo, fc, rfl, hfc⟩ := HIB.out.files.row.shape
                    rw [hnf] at HIB H13
                    have hEl : E ≤ lb := by have := HLB.out.2.2; omega
                    have hsl : ∀ W : World, (Instr.slice 9 (.string x1) none (some (.int .i64 (E : Int))) none).run Try.prog W = .ok (.string (x1.extract 0 E)) W := fun W => run_str_take Try.underlying9 x1 E (by omega) W
                    obtain ⟨xe, hxe⟩ : ∃ a, x1.extract 0 E = a := ⟨_, rfl⟩
                    rw [hxe] at hsl
                    have hcut : rfCells [cutF f m] = [.string x0, .string xe, .int .i64 (E : Int), .bool true, .bool true] := by
                      show rfFile (cutF f m) ++ [] = _
                      rw [List.append_nil]
                      unfold rfFile cutF
                      rw [← hxe, HF.out.2.2.1, HF.out.2.2.2.1, extract_take, ← HF.out.2.2.2.2, hE]
                    have HCU := Lib.hid hcut
                    have hS : wz.cell? ⟨b13, 0, none⟩ = some (.string x0) ∧ wz.cell? ⟨b13, 1, none⟩ = some (.string x1) ∧ wz.cell? ⟨b9, 0, none⟩ = some (.slice fo nf fc) ∧ wz.frozen? ⟨b9, 0, none⟩ = false := ⟨cell_of HXB.out rfl, cell_of HXB.out rfl, cell_of HIB.out.box rfl, free_of HIB.out.box _⟩
                    have HNF := Lib.hid (And.intro hnf (And.intro hxe hE))
                    have hnm : nf ≤ 10000 := by
                      have h1 := HFL.out
                      have h2 : sB.fl = s.fl := by rw [← HB.out.2, rcMore_fl, ← HSA.out, rcName_fl]
                      rw [← hnf, h2]
                      omega
                    clear hcut hxe hnf hE hfc
                    go_upto_region 28 with fail
                    have hs2 : wz.cell? ⟨b13, 0, none⟩ = some (.string x0) ∧ wz.cell? ⟨b13, 1, none⟩ = some (.string x1) := ⟨hS.1, hS.2.1⟩
                    have e2 := hS.2.2.1
                    have e2d : wz.drew.cell? ⟨b9, 0, none⟩ = some (.slice fo nf fc) := hS.2.2.1
                    have hb9l : b9 < wz.heap.size := HIB.out.boxlt
                    have e2a : ∀ o : Obj, (wz.drew.alloc o).cell? ⟨b9, 0, none⟩ = some (.slice fo nf fc) := fun o => (((Below.refl _ wz.drew).alloc (Nat.le_refl _) o).cell (p := ⟨b9, 0, none⟩) hb9l).trans e2d
                    have hne9 : b13 ≠ b9 := fun e => by
                      have h1 := HXB.out
                      rw [e, HIB.out.box] at h1
                      simp only [Option.some.injEq, Obj.cells.injEq] at h1
                      exact absurd h1.2.1 (by decide)
                    have HBA : Hid (∀ o : Obj, Below wz.heap.size wz (wz.drew.alloc o)) := Lib.hid (fun o => ⟨rfl, rfl, rfl, by simp, fun k hk => Below.heap_alloc wz.drew o k hk⟩)
                    clear hS
                    have e0d : wz.drew.cell? ⟨b13, 0, none⟩ = some (.string x0) := hs2.1
                    have e1d : wz.drew.cell? ⟨b13, 1, none⟩ = some (.string x1) := hs2.2
                    have e0 := hs2.1
                    have e1 := hs2.2
                    clear hs2
                    go_region_law (refine step_append_rf (w0 := w) (by rfl) (.tmp 118) (.tmp 127) (by rfl) (HIB.out.files.kept (HBA.out _)) (f' := cutF f m) (cb := 1) (by rw [HCU.out]; exact (rfive_row wz.drew _ _ _ _ _).read) hnm (by rfl) (by rfl) ?_; intro oa9 c9 w9 HR9 HKT HKX; have HST := Lib.hid (RcI.file HIB.out HR9.out ((KeepT.of (HBA.out _)).trans HKT.out)); have c93 : w9.cell? ⟨b9, 0, none⟩ = some (.slice fo nf fc) := cell_of HST.out.1 rfl; have z93 : w9.frozen? ⟨b9, 0, none⟩ = false := free_of HST.out.1 _)
                    all_goals
                      have hstep : rcStep ps s f = rcFile sB f m := by
                        unfold rcStep
                        rw [HLA.out.2.2, if_neg (by simp), HSA.out, HB.out.2, HB.out.1]
                      have hfin := HST.out.2
                      rw [← hstep] at hfin
                      have hrel : RcRel w b9 d.files ps (.slice op3 mp3 cp3) (.slice oo3 mo3 co3) (.int .i64 ((i : Int) + 1)) (w9.setCell ⟨b9, 0, none⟩ (.slice oa9 (nf + 1) c9)) := by
                        refine ⟨i + 1, mp3, mo3, op3, cp3, oo3, co3, .slice oa9 (nf + 1) c9, by rw [HN.out]; omega, by simp, rfl, rfl, by omega, by omega, Lib.hid ?_, Lib.hid ?_⟩
                        · rw [HST'.out, hstep]
                          exact ⟨HLB.out.1, HLB.out.2.1⟩
                        · rw [HST'.out]
                          exact hfin
                      have HREL := Lib.hid hrel
                      clear hrel hfin hstep
                      go_wp2_with fail
                      exact ⟨HREL.out, by simp [intOf]; omega⟩
        · obtain rfl : i = N := by omega
          have hall : d.files.take i = d.files := List.take_of_length_le (by rw [HN.out]; exact Nat.le_refl _)
          rw [hall] at HL HI
          go_wp2_with fail
          first | rw [Exit.noGoto_ret] | skip
          exact bodyPost_ret (v := .tuple #[.pointer (some ⟨b9, 0, none⟩), .slice op mp cp, .slice oo mo co, .int .i64 0]) (by simp [results, Try.results66, go_sem]) rfl (.inr ⟨HGE.out, b9, op, mp, cp, oo, mo, co, fv2, rfl, HL.out.1, HL.out.2, HI.out⟩)
end Go.Proofs.Ytmkjejngnahpeaa
