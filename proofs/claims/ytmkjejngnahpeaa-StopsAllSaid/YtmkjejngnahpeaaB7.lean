/- The texts Fq, Ij in one. -/
import Derived.Test.YtmkjejngnahpeaaD4
import Derived.Test.YtmkjejngnahpeaaB2
/- Disk: a script of calls, how it lies; vast, Right. -/
namespace Go.Proofs.Ytmkjejngnahpeaa
open Go Go.Maps Go.RowKit

structure StepT where
  kind : Int
  pl : Int
  n : Int
  name : ByteArray
  bytes : List UInt8
  fates : List (Int × Int)
  picks : List Int
  bv : Value
  fv : Value
  pv : Value
def StepT.cells (x : StepT) : List Value := [.int .i64 x.kind, .int .i64 x.pl, .int .i64 x.n, .string x.name, x.bv, x.fv, x.pv]
structure StepOk (w : World) (x : StepT) : Prop where
  name : x.name.size ≤ maxLen
  bytes : readAt w 1 x.bv x.bytes.length (byteCells x.bytes)
  fates : readAt w 2 x.fv x.fates.length (fateCells x.fates)
  picks : readAt w 1 x.pv x.picks.length (intCells x.picks)
  n : -9223372036854775808 ≤ x.n ∧ x.n ≤ 9223372036854775807
  pks : ∀ p ∈ x.picks, p ≤ 9223372036854775807
theorem StepOk.below {w w' : World} {x : StepT} (h : StepOk w x) (hb : Below w.heap.size w w') : StepOk w' x :=
  ⟨h.name, h.bytes.kept (fun k hl _ _ => hb.block k hl), h.fates.kept (fun k hl _ _ => hb.block k hl), h.picks.kept (fun k hl _ _ => hb.block k hl), h.n, h.pks⟩
def stepsCells (l : List StepT) : List Value := l.flatMap StepT.cells
theorem stepsCells_length : ∀ l : List StepT, (stepsCells l).length = l.length * 7
  | [] => rfl
  | f :: r => by
    have : stepsCells (f :: r) = f.cells ++ stepsCells r := rfl
    rw [this, List.length_append, stepsCells_length r]
    simp [StepT.cells]
    omega
theorem stepsCells_get : ∀ {l : List StepT} {j i : Nat} (hj : j < l.length) (_ : i < 7), (stepsCells l)[j * 7 + i]? = (l[j].cells)[i]?
  | f :: r, 0, i, _, hi => by
    have : stepsCells (f :: r) = f.cells ++ stepsCells r := rfl
    rw [this, List.getElem?_append_left (by simp [StepT.cells]; omega)]
    simp
  | f :: r, j + 1, i, hj, hi => by
    have : stepsCells (f :: r) = f.cells ++ stepsCells r := rfl
    have h5 : f.cells.length = 7 := by simp [StepT.cells]
    rw [this, List.getElem?_append_right (by omega), h5, show (j + 1) * 7 + i - 7 = j * 7 + i by omega, stepsCells_get (by simpa using hj) hi]
    simp
/-- v is a script of these steps -/
structure ScriptAt (w : World) (v : Value) (l : List StepT) : Prop where
  row : readAt w 7 v l.length (stepsCells l)
  each : ∀ x ∈ l, StepOk w x
theorem ScriptAt.below {w w' : World} {v : Value} {l : List StepT} (h : ScriptAt w v l) (hb : Below w.heap.size w w') : ScriptAt w' v l :=
  ⟨h.row.kept (fun k hl _ _ => hb.block k hl), fun x hx => (h.each x hx).below hb⟩
theorem readAt.cellAt {w : World} {size n c g off : Nat} {xs : List Value} (h : readAt w size (.slice (some ⟨g, off, none⟩) n c) n xs) {i : Nat} {u : Value} (hu : xs[i]? = some u) : w.cell? ⟨g, off + i, none⟩ = some u := by
  have := h.cells (g := g) (off := off) rfl i u hu
  simpa [Go.WideShapes.add_plain] using this
def StepT.vast (x : StepT) : Bool := decide (3000 < x.bytes.length) || decide (100 < x.fates.length) || decide (300 < x.picks.length)
def vastT (l : List StepT) : Bool := decide (300 < l.length) || l.any StepT.vast
theorem any_take_succ {α : Type} {l : List α} {f : α → Bool} {j : Nat} (hj : j < l.length) : (l.take (j + 1)).any f = ((l.take j).any f || f l[j]) := by
  rw [List.take_succ_eq_append_getElem hj, List.any_append]
  simp
set_option maxRecDepth 100000 in
set_option maxHeartbeats 1000000 in
theorem vast_b {w : World} {v : Value} {l : List StepT} (h : ScriptAt w v l) : Calls Try.prog 36 #[v] w fun e w' => e = .returned (.bool (vastT l)) ∧ w' = w := by
  obtain ⟨oa, c, rfl⟩ := h.row.shape
  obtain ⟨n, hn⟩ : ∃ n, l.length = n := ⟨_, rfl⟩
  have hrow := h.row
  rw [hn] at hrow ⊢
  have HR := Lib.hid hrow
  have HE := Lib.hid h.each
  have HN := Lib.hid hn
  have HV : Hid (vastT l = (decide (300 < n) || l.any StepT.vast)) := Lib.hid (by unfold vastT; rw [hn])
  clear h hrow hn
  by_cases hbig : 300 < n
  · have hd : decide ((300 : Int) < (n : Int)) = true := by simp; omega
    go_enter Try.func36, Try.ntmps36
    go_wp2_with fail
    go_ret
    exact ⟨by rw [HV.out, decide_eq_true hbig]; rfl, rfl⟩
  · have hd : decide ((300 : Int) < (n : Int)) = false := by simp; omega
    go_enter Try.func36, Try.ntmps36
    go_wp2_with fail
    go_loop [3] (fun i => ∃ j : Nat, j ≤ n ∧ i = .int .i64 j ∧ Hid ((l.take j).any StepT.vast = false)) (fun i => n - (intOf i).toNat)
    case atStart => exact ⟨0, Nat.zero_le _, rfl, Lib.hid (by simp)⟩
    case round =>
      obtain ⟨j, hj, rfl, HA⟩ := hrel
      by_cases hlt : j < n
      · have hjl : j < l.length := by rw [HN.out]; exact hlt
        obtain ⟨g, off, rfl⟩ := HR.out.addr (by omega)
        obtain ⟨x, hx⟩ : ∃ x, l[j] = x := ⟨_, rfl⟩
        have hok := HE.out x (by rw [← hx]; exact List.getElem_mem _)
        obtain ⟨ob, cb, hb⟩ := hok.bytes.shape
        obtain ⟨of, cf, hf⟩ := hok.fates.shape
        obtain ⟨op, cp, hp⟩ := hok.picks.shape
        have hcell : ∀ i, i < 7 → ∀ u, x.cells[i]? = some u → w.cell? ⟨g, off + (j * 7 + i), none⟩ = some u := fun i hi u hu => HR.out.cellAt (by rw [stepsCells_get hjl hi, hx, hu])
        have k4 : w.cell? ⟨g, off + j * 7 + 4, none⟩ = some (.slice ob x.bytes.length cb) := hcell 4 (by omega) _ (by rw [← hb]; rfl)
        have k5 : w.cell? ⟨g, off + j * 7 + 5, none⟩ = some (.slice of x.fates.length cf) := hcell 5 (by omega) _ (by rw [← hf]; rfl)
        have k6 : w.cell? ⟨g, off + j * 7 + 6, none⟩ = some (.slice op x.picks.length cp) := hcell 6 (by omega) _ (by rw [← hp]; rfl)
        obtain ⟨b1, hb1⟩ : ∃ b, decide ((3000 : Int) < (x.bytes.length : Int)) = b := ⟨_, rfl⟩
        obtain ⟨b2, hb2⟩ : ∃ b, decide ((100 : Int) < (x.fates.length : Int)) = b := ⟨_, rfl⟩
        obtain ⟨b3, hb3⟩ : ∃ b, decide ((300 : Int) < (x.picks.length : Int)) = b := ⟨_, rfl⟩
        have HXV : Hid (x.vast = (b1 || b2 || b3)) := Lib.hid (by
          unfold StepT.vast
          rw [← hb1, ← hb2, ← hb3]
          congr 1
          · congr 1
            · exact decide_eq_decide.2 (by omega)
            · exact decide_eq_decide.2 (by omega)
          · exact decide_eq_decide.2 (by omega))
        have HNX : Hid ((l.take (j + 1)).any StepT.vast = x.vast) := Lib.hid (by rw [any_take_succ hjl, HA.out, hx]; rfl)
        have HXL : Hid (l.any StepT.vast = true ∨ x.vast = false) := Lib.hid (by
          cases hv : x.vast with
          | false => exact .inr rfl
          | true => exact .inl (List.any_eq_true.2 ⟨x, by rw [← hx]; exact List.getElem_mem _, hv⟩))
        have HD : Hid (decide (300 < n) = false) := Lib.hid (decide_eq_false hbig)
        clear hok hx hcell hb hf hp
        have hgood : x.vast = false → Hid ((l.take (j + 1)).any StepT.vast = false) := fun h1 => Lib.hid (by rw [HNX.out, h1])
        have hbad : x.vast = true → Hid (vastT l = true) := fun h1 => Lib.hid (by
          rw [HV.out]
          rcases HXL.out with h2 | h2
          · rw [h2]; simp
          · rw [h1] at h2; cases h2)
        have HGOOD := Lib.hid hgood
        have HBAD := Lib.hid hbad
        clear hgood hbad
        go_upto_region 6 with fail
        go_cut [37] from 13 to 37 (fun s wx => s = .bool (b1 || b2 || b3) ∧ wx = w)
        case first =>
          cases b1 <;> cases b2 <;> (go_wp2_with fail; go_meet; exact ⟨rfl, rfl⟩)
        case rest =>
          obtain ⟨rfl, rfl⟩ := hcut
          obtain ⟨bb, hbb⟩ : ∃ b, (b1 || b2 || b3) = b := ⟨_, rfl⟩
          rw [hbb] at HXV ⊢
          clear hbb hb1 hb2 hb3
          cases bb
          · have HN2 := HGOOD.out HXV.out
            go_wp2_with fail
            exact ⟨⟨j + 1, by omega, by simp, HN2⟩, by simp [intOf]; omega⟩
          · have HB2 := HBAD.out HXV.out
            go_wp2_with fail
            go_ret
            exact ⟨by rw [HB2.out]; rfl, rfl⟩
      · obtain rfl : j = n := by omega
        have HF : Hid (vastT l = false) := Lib.hid (by
          have h1 := HA.out
          rw [List.take_of_length_le (by rw [HN.out]; exact Nat.le_refl _)] at h1
          rw [HV.out, h1, decide_eq_false hbig]
          rfl)
        go_wp2_with fail
        go_ret
        exact ⟨by rw [HF.out]; rfl, rfl⟩
end Go.Proofs.Ytmkjejngnahpeaa
/- law08: the same calls on the program's disk and on the document's (printed by genij.py). -/
namespace Go.Proofs.Ytmkjejngnahpeaa
open Go Go.Maps Go.RowKit

structure OpT where
  kind : Int
  name : ByteArray
  bytes : List UInt8
  bv : Value
def OpT.cells (x : OpT) : List Value := [.int .i64 x.kind, .string x.name, x.bv]
structure OpOk (w : World) (x : OpT) : Prop where
  name : x.name.size ≤ maxLen
  bytes : readAt w 1 x.bv x.bytes.length (byteCells x.bytes)
theorem OpOk.below {w w' : World} {x : OpT} (h : OpOk w x) (hb : Below w.heap.size w w') : OpOk w' x :=
  ⟨h.name, h.bytes.kept (fun k hl _ _ => hb.block k hl)⟩
def opsCells (l : List OpT) : List Value := l.flatMap OpT.cells
theorem opsCells_length : ∀ l : List OpT, (opsCells l).length = l.length * 3
  | [] => rfl
  | f :: r => by
    have : opsCells (f :: r) = f.cells ++ opsCells r := rfl
    rw [this, List.length_append, opsCells_length r]
    simp [OpT.cells]
    omega
theorem opsCells_get : ∀ {l : List OpT} {j i : Nat} (hj : j < l.length) (_ : i < 3), (opsCells l)[j * 3 + i]? = (l[j].cells)[i]?
  | f :: r, 0, i, _, hi => by
    have : opsCells (f :: r) = f.cells ++ opsCells r := rfl
    rw [this, List.getElem?_append_left (by simp [OpT.cells]; omega)]
    simp
  | f :: r, j + 1, i, hj, hi => by
    have : opsCells (f :: r) = f.cells ++ opsCells r := rfl
    have h5 : f.cells.length = 3 := by simp [OpT.cells]
    rw [this, List.getElem?_append_right (by omega), h5, show (j + 1) * 3 + i - 3 = j * 3 + i by omega, opsCells_get (by simpa using hj) hi]
    simp
/-- v is a list of these calls -/
structure OpsAt (w : World) (v : Value) (l : List OpT) : Prop where
  row : readAt w 3 v l.length (opsCells l)
  each : ∀ x ∈ l, OpOk w x
theorem OpsAt.below {w w' : World} {v : Value} {l : List OpT} (h : OpsAt w v l) (hb : Below w.heap.size w w') : OpsAt w' v l :=
  ⟨h.row.kept (fun k hl _ _ => hb.block k hl), fun x hx => (h.each x hx).below hb⟩
def Dk.opT (d : Dk) (x : OpT) : Dk :=
  if x.kind = 1 then (d.create x.name.data.toList).2
  else if x.kind = 2 then (d.append x.name.data.toList x.bytes).2
  else if x.kind = 3 then (d.sync x.name.data.toList).2
  else if x.kind = 4 then d.syncdir.2
  else if x.kind = 5 then (d.remove x.name.data.toList).2
  else d
def Dk.opsT (d : Dk) (l : List OpT) : Dk := l.foldl Dk.opT d
theorem opsT_succ {d : Dk} {l : List OpT} {j : Nat} (hj : j < l.length) : d.opsT (l.take (j + 1)) = (d.opsT (l.take j)).opT l[j] := by
  unfold Dk.opsT
  rw [List.take_succ_eq_append_getElem hj, List.foldl_append]
  rfl
theorem DiskAt.only2 {w w' : World} {S T : Nat → Prop} {q : Nat} {d : Dk} (h : DiskAt w S q d) (ho : Only T w w') (hT : ∀ k, S k → ¬ T k) : DiskAt w' S q d := by
  obtain ⟨mb, fv, L, h⟩ := h
  exact ⟨mb, fv, L, h.only ho hT⟩
theorem DiskAt.low2 {w : World} {S : Nat → Prop} {q : Nat} {d : Dk} (h : DiskAt w S q d) : ∀ k, S k → k < w.heap.size := by
  obtain ⟨mb, fv, L, h⟩ := h
  exact h.low
theorem RfAt.only {w w' : World} {S T : Nat → Prop} {p : Nat} {d : Dk} (h : RfAt w S p d) (ho : Only T w w') (hT : ∀ k, S k → ¬ T k) : RfAt w' S p d := by
  obtain ⟨rv, fv, h⟩ := h
  exact ⟨rv, fv, h.only ho hT⟩
theorem RfAt.below {w w' : World} {S : Nat → Prop} {p : Nat} {d : Dk} (h : RfAt w S p d) (hb : Below w.heap.size w w') : RfAt w' S p d := by
  obtain ⟨rv, fv, h⟩ := h
  exact ⟨rv, fv, h.below hb⟩
theorem RfAt.low {w : World} {S : Nat → Prop} {p : Nat} {d : Dk} (h : RfAt w S p d) : ∀ k, S k → k < w.heap.size := by
  obtain ⟨rv, fv, h⟩ := h
  exact h.low
/-- both disks lie there, apart, in blocks that are new since w -/
structure TwoS (w W : World) (S1 S2 : Nat → Prop) (q p : Nat) (d : Dk) : Prop where
  one : DiskAt W S1 q d
  two : RfAt W S2 p d
  apart : ∀ k, S1 k → ¬ S2 k
  new1 : ∀ k, S1 k → w.heap.size ≤ k
  new2 : ∀ k, S2 k → w.heap.size ≤ k
  below : Below w.heap.size w W
def TwoI (w W : World) (q p : Nat) (d : Dk) : Prop := ∃ S1 S2, TwoS w W S1 S2 q p d
theorem TwoS.grown {w W W' : World} {S1 S2 : Nat → Prop} {q p : Nat} {d : Dk} (h : TwoS w W S1 S2 q p d) (hb : Below W.heap.size W W') : TwoS w W' S1 S2 q p d :=
  ⟨h.one.below hb, h.two.below hb, h.apart, h.new1, h.new2, h.below.trans (hb.mono h.below.size)⟩
theorem TwoS.mid {w W W1 : World} {S1 S2 : Nat → Prop} {q p : Nat} {d : Dk} {r : Int × Dk} {e : Ending} (h : TwoS w W S1 S2 q p d) (h1 : OpIs W S1 q r e W1) : RfAt W1 S2 p d := h.two.only h1.2.2 (fun k h2 h3 => h.apart k h3 h2)
theorem TwoS.next {w W W1 W2 : World} {S1 S2 : Nat → Prop} {q p : Nat} {d d' : Dk} {n n' : Int} {e e' : Ending} (h : TwoS w W S1 S2 q p d) (h1 : OpIs W S1 q (n, d') e W1) (h2 : ROpIs W1 S2 p (n', d') e' W2) : TwoI w W2 q p d' := by
  have hsz := h.below.size
  have hs1 := h1.2.2.size
  have hs2 := h2.2.2.size
  have hd1 : ∀ k, Wid S1 W W1 k → ¬ S2 k := fun k hk h3 => by
    rcases hk with hk | hk
    · exact h.apart k hk h3
    · have := h.two.low k h3
      omega
  refine ⟨Wid S1 W W1, Wid S2 W1 W2, h1.2.1.only2 h2.2.2 hd1, h2.2.1, fun k hk h3 => ?_, fun k hk => ?_, fun k hk => ?_, ?_⟩
  · rcases h3 with h3 | h3
    · exact hd1 k hk h3
    · have := h1.2.1.low2 k hk
      omega
  · rcases hk with hk | hk
    · exact h.new1 k hk
    · omega
  · rcases hk with hk | hk
    · exact h.new2 k hk
    · omega
  · have b1 : Below w.heap.size W W1 := h1.2.2.below (fun i hi hs => by have := h.new1 i hs; omega) hsz
    have b2 : Below w.heap.size W1 W2 := h2.2.2.below (fun i hi hs => by have := h.new2 i hs; omega) (by omega)
    exact h.below.trans (b1.trans b2)
set_option maxRecDepth 100000 in
set_option maxHeartbeats 4000000 in
theorem both_b {w : World} {v : Value} {l : List OpT} (hs : OpsAt w v l) (hll : l.length ≤ 100) (hlx : ∀ x ∈ l, x.bytes.length ≤ 2000) :
    Calls Try.prog 72 #[v] w fun e w' => ∃ q p, e = .returned (.tuple #[.pointer (some ⟨q, 0, none⟩), .pointer (some ⟨p, 0, none⟩)]) ∧ TwoI w w' q p (Dk.opsT ⟨[], [], 0⟩ l) := by
  obtain ⟨ob, cb, rfl⟩ := hs.row.shape
  obtain ⟨n, hn⟩ : ∃ n, l.length = n := ⟨_, rfl⟩
  rw [hn] at hs hll ⊢
  have HS := Lib.hid hs
  have HN := Lib.hid hn
  have HLX := Lib.hid hlx
  clear hs hn hlx
  have hnil : ∀ W : World, readAt W 2 (.slice none 0 0) 0 (fateCells []) := fun W => ⟨rfl, .inl ⟨rfl, none, 0, rfl, fun _ => rfl⟩⟩
  have HNIL := Lib.hid hnil
  clear hnil
  go_enter Try.func72, Try.ntmps72
  go_wp2_with fail
  refine (newF_b (l := []) (n := 0) rfl (HNIL.out w) (Nat.zero_le _) rfl).mono ?_
  rintro e w1 ⟨q, rfl, hd1, hb1⟩
  have HD1 := Lib.hid (And.intro hd1 hb1)
  clear hd1 hb1
  go_wp2_with fail
  refine (refNew_b (fs := []) (n := 0) rfl (HNIL.out w1) (Nat.zero_le _)).mono ?_
  rintro e w2 ⟨p, rfl, hr2, hb2⟩
  have HI0 : Hid (TwoI w w2 q p ⟨[], [], 0⟩) := Lib.hid ⟨_, _, HD1.out.1.below hb2, hr2, fun k h1 h2 => by have := h1.2; have := h2.1; omega, fun k h1 => h1.1, fun k h1 => Nat.le_trans HD1.out.2.size h1.1, HD1.out.2.trans (hb2.mono HD1.out.2.size)⟩
  clear hr2 hb2
  go_wp2_with fail
  go_loopw [7] (fun i wr => ∃ (j : Nat), j ≤ n ∧ i = .int .i64 j ∧ Hid (TwoI w wr q p (Dk.opsT ⟨[], [], 0⟩ (l.take j)))) (fun i wr => n - (intOf i).toNat)
  case atStart => exact ⟨0, Nat.zero_le _, rfl, HI0⟩
  case round =>
    obtain ⟨j, hj, rfl, HI⟩ := hrel
    obtain ⟨d, hd⟩ : ∃ d, Dk.opsT ⟨[], [], 0⟩ (l.take j) = d := ⟨_, rfl⟩
    rw [hd] at HI
    by_cases hlt : j < n
    · have hjl : j < l.length := by rw [HN.out]; exact hlt
      obtain ⟨x, hx⟩ : ∃ x, l[j] = x := ⟨_, rfl⟩
      have hxl : x ∈ l := by rw [← hx]; exact List.getElem_mem _
      have HPT : Hid (Dk.opsT ⟨[], [], 0⟩ (l.take (j + 1)) = d.opT x) := Lib.hid (by rw [opsT_succ hjl, hd, hx])
      obtain ⟨S1, S2, hI⟩ := HI.out
      have hsr := HS.out.below hI.below
      have hok := hsr.each x hxl
      have hrow : readAt wr 3 (.slice ob n cb) n (opsCells l) := by have := hsr.row; rwa [HN.out] at this
      obtain ⟨g, off, rfl⟩ := hrow.addr (by omega)
      have hcell : ∀ i, i < 3 → ∀ u, x.cells[i]? = some u → wr.cell? ⟨g, off + (j * 3 + i), none⟩ = some u := fun i hi u hu => hrow.cellAt (by rw [opsCells_get hjl hi, hx, hu])
      obtain ⟨oB, cB, hbv⟩ := hok.bytes.shape
      obtain ⟨kd, hkd⟩ : ∃ k, x.kind = k := ⟨_, rfl⟩
      obtain ⟨lb, hlb⟩ : ∃ k, x.bytes.length = k := ⟨_, rfl⟩
      rw [hlb] at hbv
      have k0 : wr.cell? ⟨g, off + j * 3, none⟩ = some (.int .i64 kd) := hcell 0 (by omega) _ (by rw [← hkd]; rfl)
      have k1 : wr.cell? ⟨g, off + j * 3 + 1, none⟩ = some (.string x.name) := hcell 1 (by omega) _ rfl
      have k2 : wr.cell? ⟨g, off + j * 3 + 2, none⟩ = some (.slice oB lb cB) := hcell 2 (by omega) _ (by rw [← hbv]; rfl)
      obtain ⟨w2, hw2⟩ : ∃ w2 : World, w2 = wr.alloc (.cells #[.int .i64 kd, .string x.name, .slice oB lb cB] 204) := ⟨_, rfl⟩
      obtain ⟨b8, hb8⟩ : ∃ b, b = wr.heap.size := ⟨_, rfl⟩
      have hc2 : w2.heap[b8]? = some (.cells #[.int .i64 kd, .string x.name, .slice oB lb cB] 204 (0, 0)) := by rw [hw2, hb8]; exact alloc_cells _ _ _
      have hb2 : Below wr.heap.size wr w2 := by rw [hw2]; exact (Below.refl _ _).alloc (Nat.le_refl _) _
      have HX := Lib.hid (And.intro hbv (And.intro hlb (And.intro hkd hxl)))
      have HLB : Hid (lb ≤ 2000) := Lib.hid (by rw [← hlb]; exact HLX.out x hxl)
      have HI2 := Lib.hid (hI.grown hb2)
      have HOK : Hid (x.name.size ≤ maxLen ∧ readAt w2 1 (.slice oB x.bytes.length cB) x.bytes.length (byteCells x.bytes)) := Lib.hid ⟨hok.name, by have := (hok.below hb2).bytes; rw [hbv, ← hlb] at this; exact this⟩
      have HNS : Hid (∀ k, (Value.slice oB x.bytes.length cB).ownBlock = some k → 0 < x.bytes.length → k < w.heap.size) := Lib.hid (fun k hk h0 => (HS.out.each x hxl).bytes.lt h0 k (by rw [hbv]; rw [hlb] at hk; exact hk))
      have HB8 : Hid ((∀ k, S1 k → k ≠ b8) ∧ b8 < w2.heap.size) := Lib.hid ⟨fun k hk => by have := hI.one.low2 k hk; omega, (Array.getElem?_eq_some_iff.1 hc2).1⟩
      have HC2 := Lib.hid hc2
      clear hx hxl hsr hok hrow hcell hbv hkd hlb hb2 hd hI HI
      go_upto_region 7 with fail
      rw [← hw2, ← hb8]
      have c0 : w2.cell? ⟨b8, 0, none⟩ = some (.int .i64 kd) := cell_of hc2 rfl
      have c1 : w2.cell? ⟨b8, 1, none⟩ = some (.string x.name) := cell_of hc2 rfl
      have c2 : w2.cell? ⟨b8, 2, none⟩ = some (.slice oB lb cB) := cell_of hc2 rfl
      clear hw2 hb8 hc2 k0 k1 k2
      have HFIN : Hid (∀ wx : World, TwoI w wx q p (d.opT x) → Hid (TwoI w wx q p (Dk.opsT ⟨[], [], 0⟩ (l.take (j + 1))))) := Lib.hid (fun wx h1 => Lib.hid (by rw [HPT.out]; exact h1))
      by_cases hkk : kd = 1 ∨ kd = 2 ∨ kd = 3 ∨ kd = 4 ∨ kd = 5
      · rcases hkk with rfl | rfl | rfl | rfl | rfl
        · have HDT : Hid (d.opT x = (d.create x.name.data.toList).2) := Lib.hid (by unfold Dk.opT; rw [HX.out.2.2.1]; rfl)
          go_wp2_with fail
          refine (create_b HI2.out.one x.name HOK.out.1).mono ?_
          rintro e w3 ho
          obtain rfl := ho.1
          have hm := HI2.out.mid ho
          have hc3 := (ho.2.2.block b8 HB8.out.2 (fun h => HB8.out.1 b8 h rfl)).trans HC2.out
          have c0' : w3.cell? ⟨b8, 0, none⟩ = some (.int .i64 1) := cell_of hc3 rfl
          have c1' : w3.cell? ⟨b8, 1, none⟩ = some (.string x.name) := cell_of hc3 rfl
          have c2' : w3.cell? ⟨b8, 2, none⟩ = some (.slice oB lb cB) := cell_of hc3 rfl
          have HRC := Lib.hid (refCreate_b hm x.name HOK.out.1)
          have HO := Lib.hid ho
          clear ho hm hc3
          go_wp2_with fail
          refine (HRC.out).mono ?_
          rintro e w4 ho4
          obtain rfl := ho4.1
          have HIN := HFIN.out _ (by rw [HDT.out]; exact HI2.out.next HO.out ho4)
          clear ho4
          go_wp2_with fail
          exact ⟨⟨j + 1, by omega, by simp, HIN⟩, by simp [intOf]; omega⟩
        · have HDT : Hid (d.opT x = (d.append x.name.data.toList x.bytes).2) := Lib.hid (by unfold Dk.opT; rw [HX.out.2.2.1]; rfl)
          have HAP := Lib.hid (append_b HI2.out.one x.name HOK.out.1 oB cB x.bytes HOK.out.2 (fun k hk h0 hc => by have := HNS.out k hk h0; have := HI2.out.new1 k hc; omega) (by rw [HX.out.2.1]; have := HLB.out; omega))
          rw [HX.out.2.1] at HAP
          go_wp2_with fail
          refine (HAP.out).mono ?_
          rintro e w3 ho
          obtain rfl := ho.1
          have hm := HI2.out.mid ho
          have hc3 := (ho.2.2.block b8 HB8.out.2 (fun h => HB8.out.1 b8 h rfl)).trans HC2.out
          have c0' : w3.cell? ⟨b8, 0, none⟩ = some (.int .i64 2) := cell_of hc3 rfl
          have c1' : w3.cell? ⟨b8, 1, none⟩ = some (.string x.name) := cell_of hc3 rfl
          have c2' : w3.cell? ⟨b8, 2, none⟩ = some (.slice oB lb cB) := cell_of hc3 rfl
          have hrb : readAt w3 1 (.slice oB x.bytes.length cB) x.bytes.length (byteCells x.bytes) := HOK.out.2.kept (fun k hk hk2 h0 => ho.2.2.block k hk (fun hc => by have := HNS.out k hk2 h0; have := HI2.out.new1 k hc; omega))
          have HRC := Lib.hid (refAppend_b hm x.name HOK.out.1 oB cB x.bytes hrb (fun k hk h0 hc => by have := HNS.out k hk h0; have := HI2.out.new2 k hc; omega))
          rw [HX.out.2.1] at HRC
          have HO := Lib.hid ho
          clear ho hm hc3 hrb
          go_wp2_with fail
          refine (HRC.out).mono ?_
          rintro e w4 ho4
          obtain rfl := ho4.1
          have HIN := HFIN.out _ (by rw [HDT.out]; exact HI2.out.next HO.out ho4)
          clear ho4
          go_wp2_with fail
          exact ⟨⟨j + 1, by omega, by simp, HIN⟩, by simp [intOf]; omega⟩
        · have HDT : Hid (d.opT x = (d.sync x.name.data.toList).2) := Lib.hid (by unfold Dk.opT; rw [HX.out.2.2.1]; rfl)
          go_wp2_with fail
          refine (sync_b HI2.out.one x.name HOK.out.1).mono ?_
          rintro e w3 ho
          obtain rfl := ho.1
          have hm := HI2.out.mid ho
          have hc3 := (ho.2.2.block b8 HB8.out.2 (fun h => HB8.out.1 b8 h rfl)).trans HC2.out
          have c0' : w3.cell? ⟨b8, 0, none⟩ = some (.int .i64 3) := cell_of hc3 rfl
          have c1' : w3.cell? ⟨b8, 1, none⟩ = some (.string x.name) := cell_of hc3 rfl
          have c2' : w3.cell? ⟨b8, 2, none⟩ = some (.slice oB lb cB) := cell_of hc3 rfl
          have HRC := Lib.hid (refSync_b hm x.name HOK.out.1)
          have HO := Lib.hid ho
          clear ho hm hc3
          go_wp2_with fail
          refine (HRC.out).mono ?_
          rintro e w4 ho4
          obtain rfl := ho4.1
          have HIN := HFIN.out _ (by rw [HDT.out]; exact HI2.out.next HO.out ho4)
          clear ho4
          go_wp2_with fail
          exact ⟨⟨j + 1, by omega, by simp, HIN⟩, by simp [intOf]; omega⟩
        · have HDT : Hid (d.opT x = (d.syncdir).2) := Lib.hid (by unfold Dk.opT; rw [HX.out.2.2.1]; rfl)
          go_wp2_with fail
          refine (syncdir_b HI2.out.one).mono ?_
          rintro e w3 ho
          obtain rfl := ho.1
          have hm := HI2.out.mid ho
          have hc3 := (ho.2.2.block b8 HB8.out.2 (fun h => HB8.out.1 b8 h rfl)).trans HC2.out
          have c0' : w3.cell? ⟨b8, 0, none⟩ = some (.int .i64 4) := cell_of hc3 rfl
          have c1' : w3.cell? ⟨b8, 1, none⟩ = some (.string x.name) := cell_of hc3 rfl
          have c2' : w3.cell? ⟨b8, 2, none⟩ = some (.slice oB lb cB) := cell_of hc3 rfl
          have HRC := Lib.hid (refSyncDir_b hm)
          have HO := Lib.hid ho
          clear ho hm hc3
          go_wp2_with fail
          refine (HRC.out).mono ?_
          rintro e w4 ho4
          obtain rfl := ho4.1
          have HIN := HFIN.out _ (by rw [HDT.out]; exact HI2.out.next HO.out ho4)
          clear ho4
          go_wp2_with fail
          exact ⟨⟨j + 1, by omega, by simp, HIN⟩, by simp [intOf]; omega⟩
        · have HDT : Hid (d.opT x = (d.remove x.name.data.toList).2) := Lib.hid (by unfold Dk.opT; rw [HX.out.2.2.1]; rfl)
          go_wp2_with fail
          refine (remove_b HI2.out.one x.name HOK.out.1).mono ?_
          rintro e w3 ho
          obtain rfl := ho.1
          have hm := HI2.out.mid ho
          have hc3 := (ho.2.2.block b8 HB8.out.2 (fun h => HB8.out.1 b8 h rfl)).trans HC2.out
          have c0' : w3.cell? ⟨b8, 0, none⟩ = some (.int .i64 5) := cell_of hc3 rfl
          have c1' : w3.cell? ⟨b8, 1, none⟩ = some (.string x.name) := cell_of hc3 rfl
          have c2' : w3.cell? ⟨b8, 2, none⟩ = some (.slice oB lb cB) := cell_of hc3 rfl
          have HRC := Lib.hid (refRemove_b hm x.name HOK.out.1)
          have HO := Lib.hid ho
          clear ho hm hc3
          go_wp2_with fail
          refine (HRC.out).mono ?_
          rintro e w4 ho4
          obtain rfl := ho4.1
          have HIN := HFIN.out _ (by rw [HDT.out]; exact HI2.out.next HO.out ho4)
          clear ho4
          go_wp2_with fail
          exact ⟨⟨j + 1, by omega, by simp, HIN⟩, by simp [intOf]; omega⟩
      · have e1 : (kd == 1) = false := by simp; omega
        have e2 : (kd == 2) = false := by simp; omega
        have e3 : (kd == 3) = false := by simp; omega
        have e4 : (kd == 4) = false := by simp; omega
        have e5 : (kd == 5) = false := by simp; omega
        have HDT : Hid (d.opT x = d) := Lib.hid (by unfold Dk.opT; rw [HX.out.2.2.1, if_neg (by omega), if_neg (by omega), if_neg (by omega), if_neg (by omega), if_neg (by omega)])
        clear hkk
        go_wp2_with fail
        have HIN := HFIN.out _ (by rw [HDT.out]; exact ⟨S1, S2, HI2.out⟩)
        exact ⟨⟨j + 1, by omega, by simp, HIN⟩, by simp [intOf]; omega⟩
    · obtain rfl : j = n := by omega
      have HE : Hid (TwoI w wr q p (Dk.opsT ⟨[], [], 0⟩ l)) := Lib.hid (by
        rw [List.take_of_length_le (by rw [HN.out]; exact Nat.le_refl _)] at hd
        rw [hd]; exact HI.out)
      clear hd
      go_wp2_with fail
      go_ret2
      exact ⟨q, p, rfl, HE.out⟩
end Go.Proofs.Ytmkjejngnahpeaa
