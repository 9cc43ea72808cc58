/- Disk: a script of calls, how it lies; vast, Right. -/
import Derived.Test.YtmkjejngnahpeaaFz
namespace Go.Proofs.Ytmkjejngnahpeaa
open Go Go.Maps Go.RowKit

structure StepT where
  kind : Int
  pl : Int
  n : Int
  name : ByteArray
  bytes : List UInt8
  fates : List (Int × Int)
  picks : List Int
  bv : Value
  fv : Value
  pv : Value
def StepT.cells (x : StepT) : List Value := [.int .i64 x.kind, .int .i64 x.pl, .int .i64 x.n, .string x.name, x.bv, x.fv, x.pv]
structure StepOk (w : World) (x : StepT) : Prop where
  name : x.name.size ≤ maxLen
  bytes : readAt w 1 x.bv x.bytes.length (byteCells x.bytes)
  fates : readAt w 2 x.fv x.fates.length (fateCells x.fates)
  picks : readAt w 1 x.pv x.picks.length (intCells x.picks)
  n : -9223372036854775808 ≤ x.n ∧ x.n ≤ 9223372036854775807
  pks : ∀ p ∈ x.picks, p ≤ 9223372036854775807
theorem StepOk.below {w w' : World} {x : StepT} (h : StepOk w x) (hb : Below w.heap.size w w') : StepOk w' x :=
  ⟨h.name, h.bytes.kept (fun k hl _ _ => hb.block k hl), h.fates.kept (fun k hl _ _ => hb.block k hl), h.picks.kept (fun k hl _ _ => hb.block k hl), h.n, h.pks⟩
def stepsCells (l : List StepT) : List Value := l.flatMap StepT.cells
theorem stepsCells_length : ∀ l : List StepT, (stepsCells l).length = l.length * 7
  | [] => rfl
  | f :: r => by
    have : stepsCells (f :: r) = f.cells ++ stepsCells r := rfl
    rw [this, List.length_append, stepsCells_length r]
    simp [StepT.cells]
    omega
theorem stepsCells_get : ∀ {l : List StepT} {j i : Nat} (hj : j < l.length) (_ : i < 7), (stepsCells l)[j * 7 + i]? = (l[j].cells)[i]?
  | f :: r, 0, i, _, hi => by
    have : stepsCells (f :: r) = f.cells ++ stepsCells r := rfl
    rw [this, List.getElem?_append_left (by simp [StepT.cells]; omega)]
    simp
  | f :: r, j + 1, i, hj, hi => by
    have : stepsCells (f :: r) = f.cells ++ stepsCells r := rfl
    have h5 : f.cells.length = 7 := by simp [StepT.cells]
    rw [this, List.getElem?_append_right (by omega), h5, show (j + 1) * 7 + i - 7 = j * 7 + i by omega, stepsCells_get (by simpa using hj) hi]
    simp
/-- v is a script of these steps -/
structure ScriptAt (w : World) (v : Value) (l : List StepT) : Prop where
  row : readAt w 7 v l.length (stepsCells l)
  each : ∀ x ∈ l, StepOk w x
theorem ScriptAt.below {w w' : World} {v : Value} {l : List StepT} (h : ScriptAt w v l) (hb : Below w.heap.size w w') : ScriptAt w' v l :=
  ⟨h.row.kept (fun k hl _ _ => hb.block k hl), fun x hx => (h.each x hx).below hb⟩
theorem readAt.cellAt {w : World} {size n c g off : Nat} {xs : List Value} (h : readAt w size (.slice (some ⟨g, off, none⟩) n c) n xs) {i : Nat} {u : Value} (hu : xs[i]? = some u) : w.cell? ⟨g, off + i, none⟩ = some u := by
  have := h.cells (g := g) (off := off) rfl i u hu
  simpa [Go.WideShapes.add_plain] using this
def StepT.vast (x : StepT) : Bool := decide (3000 < x.bytes.length) || decide (100 < x.fates.length) || decide (300 < x.picks.length)
def vastT (l : List StepT) : Bool := decide (300 < l.length) || l.any StepT.vast
theorem any_take_succ {α : Type} {l : List α} {f : α → Bool} {j : Nat} (hj : j < l.length) : (l.take (j + 1)).any f = ((l.take j).any f || f l[j]) := by
  rw [List.take_succ_eq_append_getElem hj, List.any_append]
  simp
set_option maxRecDepth 100000 in
set_option maxHeartbeats 1000000 in
theorem vast_b {w : World} {v : Value} {l : List StepT} (h : ScriptAt w v l) : Calls Try.prog 36 #[v] w fun e w' => e = .returned (.bool (vastT l)) ∧ w' = w := by
  obtain ⟨oa, c, rfl⟩ := h.row.shape
  obtain ⟨n, hn⟩ : ∃ n, l.length = n := ⟨_, rfl⟩
  have hrow := h.row
  rw [hn] at hrow ⊢
  have HR := Lib.hid hrow
  have HE := Lib.hid h.each
  have HN := Lib.hid hn
  have HV : Hid (vastT l = (decide (300 < n) || l.any StepT.vast)) := Lib.hid (by unfold vastT; rw [hn])
  clear h hrow hn
  by_cases hbig : 300 < n
  · have hd : decide ((300 : Int) < (n : Int)) = true := by simp; omega
    go_enter Try.func36, Try.ntmps36
    go_wp2_with fail
    go_ret
    exact ⟨by rw [HV.out, decide_eq_true hbig]; rfl, rfl⟩
  · have hd : decide ((300 : Int) < (n : Int)) = false := by simp; omega
    go_enter Try.func36, Try.ntmps36
    go_wp2_with fail
    go_loop [3] (fun i => ∃ j : Nat, j ≤ n ∧ i = .int .i64 j ∧ Hid ((l.take j).any StepT.vast = false)) (fun i => n - (intOf i).toNat)
    case atStart => exact ⟨0, Nat.zero_le _, rfl, Lib.hid (by simp)⟩
    case round =>
      obtain ⟨j, hj, rfl, HA⟩ := hrel
      by_cases hlt : j < n
      · have hjl : j < l.length := by rw [HN.out]; exact hlt
        obtain ⟨g, off, rfl⟩ := HR.out.addr (by omega)
        obtain ⟨x, hx⟩ : ∃ x, l[j] = x := ⟨_, rfl⟩
        have hok := HE.out x (by rw [← hx]; exact List.getElem_mem _)
        obtain ⟨ob, cb, hb⟩ := hok.bytes.shape
        obtain ⟨of, cf, hf⟩ := hok.fates.shape
        obtain ⟨op, cp, hp⟩ := hok.picks.shape
        have hcell : ∀ i, i < 7 → ∀ u, x.cells[i]? = some u → w.cell? ⟨g, off + (j * 7 + i), none⟩ = some u := fun i hi u hu => HR.out.cellAt (by rw [stepsCells_get hjl hi, hx, hu])
        have k4 : w.cell? ⟨g, off + j * 7 + 4, none⟩ = some (.slice ob x.bytes.length cb) := hcell 4 (by omega) _ (by rw [← hb]; rfl)
        have k5 : w.cell? ⟨g, off + j * 7 + 5, none⟩ = some (.slice of x.fates.length cf) := hcell 5 (by omega) _ (by rw [← hf]; rfl)
        have k6 : w.cell? ⟨g, off + j * 7 + 6, none⟩ = some (.slice op x.picks.length cp) := hcell 6 (by omega) _ (by rw [← hp]; rfl)
        obtain ⟨b1, hb1⟩ : ∃ b, decide ((3000 : Int) < (x.bytes.length : Int)) = b := ⟨_, rfl⟩
        obtain ⟨b2, hb2⟩ : ∃ b, decide ((100 : Int) < (x.fates.length : Int)) = b := ⟨_, rfl⟩
        obtain ⟨b3, hb3⟩ : ∃ b, decide ((300 : Int) < (x.picks.length : Int)) = b := ⟨_, rfl⟩
        have HXV : Hid (x.vast = (b1 || b2 || b3)) := Lib.hid (by
          unfold StepT.vast
          rw [← hb1, ← hb2, ← hb3]
          congr 1
          · congr 1
            · exact decide_eq_decide.2 (by omega)
            · exact decide_eq_decide.2 (by omega)
          · exact decide_eq_decide.2 (by omega))
        have HNX : Hid ((l.take (j + 1)).any StepT.vast = x.vast) := Lib.hid (by rw [any_take_succ hjl, HA.out, hx]; rfl)
        have HXL : Hid (l.any StepT.vast = true ∨ x.vast = false) := Lib.hid (by
          cases hv : x.vast with
          | false => exact .inr rfl
          | true => exact .inl (List.any_eq_true.2 ⟨x, by rw [← hx]; exact List.getElem_mem _, hv⟩))
        have HD : Hid (decide (300 < n) = false) := Lib.hid (decide_eq_false hbig)
        clear hok hx hcell hb hf hp
        have hgood : x.vast = false → Hid ((l.take (j + 1)).any StepT.vast = false) := fun h1 => Lib.hid (by rw [HNX.out, h1])
        have hbad : x.vast = true → Hid (vastT l = true) := fun h1 => Lib.hid (by
          rw [HV.out]
          rcases HXL.out with h2 | h2
          · rw [h2]; simp
          · rw [h1] at h2; cases h2)
        have HGOOD := Lib.hid hgood
        have HBAD := Lib.hid hbad
        clear hgood hbad
        go_upto_region 6 with fail
        go_cut [37] from 13 to 37 (fun s wx => s = .bool (b1 || b2 || b3) ∧ wx = w)
        case first =>
          cases b1 <;> cases b2 <;> (go_wp2_with fail; go_meet; exact ⟨rfl, rfl⟩)
        case rest =>
          obtain ⟨rfl, rfl⟩ := hcut
          obtain ⟨bb, hbb⟩ : ∃ b, (b1 || b2 || b3) = b := ⟨_, rfl⟩
          rw [hbb] at HXV ⊢
          clear hbb hb1 hb2 hb3
          cases bb
          · have HN2 := HGOOD.out HXV.out
            go_wp2_with fail
            exact ⟨⟨j + 1, by omega, by simp, HN2⟩, by simp [intOf]; omega⟩
          · have HB2 := HBAD.out HXV.out
            go_wp2_with fail
            go_ret
            exact ⟨by rw [HB2.out]; rfl, rfl⟩
      · obtain rfl : j = n := by omega
        have HF : Hid (vastT l = false) := Lib.hid (by
          have h1 := HA.out
          rw [List.take_of_length_le (by rw [HN.out]; exact Nat.le_refl _)] at h1
          rw [HV.out, h1, decide_eq_false hbig]
          rfl)
        go_wp2_with fail
        go_ret
        exact ⟨by rw [HF.out]; rfl, rfl⟩
end Go.Proofs.Ytmkjejngnahpeaa
