/- The texts SegB, SegC0, Mt, Mu, SegD, Po, Pl in one. -/
import Derived.Test.YtlgcoaeddeiegaaGreatV7
import Derived.Test.YtlgcoaeddeiegaaGreatV5
import Derived.WalkKit
/- Segment names: segment.Name. -/
namespace Go.Proofs.YtlgcoaeddeiegaaGreat
open Go.RowKit

theorem info_u8S : (Tryz.prog.info? 5).map (fun i => (i.zero, i.size, i.bytes)) = some (some (.int .u8 0), 1, 1) := by kernel_rfl

set_option maxRecDepth 100000 in
set_option maxHeartbeats 400000 in
theorem name_ok (s : ByteArray) (b : Nat) (w : World) (hs : s.size ≤ 8) (hl : loggedB s.data.toList = true) (hb : b ≤ 9007199254740992) :
    Calls Tryz.prog 78 #[.string s, .int .i64 b] w fun e w' => e = .returned (.tuple #[.string ⟨(s.data.toList ++ 45 :: hex 14 b).toArray⟩, .int .i64 0]) ∧ Below w.heap.size w w' := by
  have hs' : s.size ≤ maxLen := by unfold maxLen; omega
  have HL := Lib.hid hl
  clear hl
  have hd : decide ((9007199254740992 : Int) < (b : Int)) = false := by rw [decide_eq_false_iff_not]; omega
  have hd0 : decide ((b : Int) < 0) = false := by simp
  have HB := Lib.hid hb
  clear hb
  obtain ⟨v0, w1, hrun, hrow, hgrow, hown, hsize⟩ := run_bytes_row (P := Tryz.prog) w w.heap.size 9 39 5 (s ++ ⟨#[45]⟩) Tryz.underlying9 Tryz.underlying39 Tryz.underlying5 (Nat.le_refl _) (by rw [size_dash]; unfold maxLen; omega)
  rw [size_dash, data_dash] at hrow
  have HX := Lib.hid hsize
  have HO := Lib.hid hown
  clear hsize hown
  go_enter Tryz.func78, Tryz.ntmps78
  go_wp2_with (go_at_call 150; refine (logged_any _ _ (by assumption)).mono ?_; rintro e w' ⟨rfl, rfl⟩; rw [HL.out])
  go_loopw [6, 7] (fun v i wr => ∃ k : Nat, k ≤ 14 ∧ i = .int .i64 ((13 : Int) - (k : Int)) ∧ hasRow wr w.heap.size 5 1 v (s.size + 1 + k) (byteCells (s.data.toList ++ 45 :: hex k (b / 16 ^ (14 - k)))) ∧ Below w.heap.size w wr)
    (fun _ i _ => (intOf i + 1).toNat)
  case atStart =>
    refine ⟨0, by omega, rfl, ?_, ?_⟩
    · exact hrow
    · exact (Below.refl _ _).grown hgrow (Nat.le_refl _) (by simp)
  case round =>
    obtain ⟨k, hk, rfl, hrw, hbl⟩ := hrel
    by_cases hlt : k < 14
    · obtain ⟨d, hd⟩ : ∃ d, d = b / 16 ^ (13 - k) % 16 := ⟨_, rfl⟩
      have hd16 : d < 16 := by omega
      have hbit : bits .and .i64 ((b : Int) / 2 ^ (4 * (13 - k))) 15 = (d : Int) := by rw [digit_bits, hd]
      have HD := Lib.hid hd
      clear hd
      have hdg : hexs[d]'hd16 = hexd d := hexs_get d hd16
      go_wp2_with (at_builtin; refine wpList_append_row _ rfl (.tmp 26) (.tmp 33) 39 39 rfl w.heap.size 5 (.int .u8 0) 1 1 Tryz.underlying39 info_u8S rfl u6 (s.size + 1 + k) _ rfl (hrw.alloc _) _ 1 [.int .u8 ((hexs[d]'hd16).toNat : Int)] rfl (Src.slice Tryz.underlying39 ⟨wr.heap.size, 0, none⟩ 1 1 _ rfl (cell_one_new _ _ _) (by simp [Value.oneCell'])) ?_ ?_ ?_ ?_)
      · unfold maxLen; omega
      · omega
      · have := hbl.size; simp; omega
      · intro v' w2 hrow2 hgrow2 _
        clear hbit
        go_wp2
        go_roundw
        case rel =>
          refine ⟨k + 1, by omega, by go_num, ?_, ?_⟩
          · have e : byteCells (s.data.toList ++ 45 :: hex k (b / 16 ^ (14 - k))) ++ [.int .u8 ((hexd d).toNat : Int)] = byteCells (s.data.toList ++ 45 :: hex (k + 1) (b / 16 ^ (14 - (k + 1)))) := by
              rw [HD.out, show 14 - (k + 1) = 13 - k by omega, hex_down k b hlt]
              simp [byteCells]
            rw [← e]
            exact hrow2
          · exact (hbl.alloc hbl.size _).grown hgrow2 (by have := hbl.size; simp; omega) (fun j hj => (hrw.lt j hj).1)
        case measure => simp [intOf]; omega
    · obtain rfl : k = 14 := by omega
      have hst := run_string_row (P := Tryz.prog) wr w.heap.size 39 9 5 u6 (s.data.toList ++ 45 :: hex 14 b) Tryz.underlying39 Tryz.underlying5 Tryz.underlying9
        (by have := hrw; simpa [hex_length] using this)
      go_wp2
      go_ret2
      exact ⟨rfl, hbl⟩
end Go.Proofs.YtlgcoaeddeiegaaGreat
/- Name refused: Segment names: the refusals of segment.Name; the reference's Logged and Name. -/
namespace Go.Proofs.YtlgcoaeddeiegaaGreat
open Go.RowKit

set_option maxRecDepth 100000 in
set_option maxHeartbeats 400000 in
theorem name_no (s : ByteArray) (b : Int) (w : World) (hs : s.size ≤ maxLen) (h : loggedB s.data.toList = false ∨ b < 0 ∨ 9007199254740992 < b) :
    Calls Tryz.prog 78 #[.string s, .int .i64 b] w fun e w' => e = .returned (.tuple #[.string ⟨#[]⟩, .int .i64 2]) ∧ w = w' := by
  cases hl : loggedB s.data.toList with
  | false =>
    have HL := Lib.hid hl
    clear hl h
    go_enter Tryz.func78, Tryz.ntmps78
    go_wp2_with (go_at_call 150; refine (logged_any _ _ (by assumption)).mono ?_; rintro e w' ⟨rfl, rfl⟩; rw [HL.out])
    go_ret2
    exact ⟨rfl, rfl⟩
  | true =>
    have HL := Lib.hid hl
    by_cases h0 : b < 0
    · have hd0 : decide (b < 0) = true := by simp [h0]
      clear hl h h0
      go_enter Tryz.func78, Tryz.ntmps78
      go_wp2_with (go_at_call 150; refine (logged_any _ _ (by assumption)).mono ?_; rintro e w' ⟨rfl, rfl⟩; rw [HL.out])
      go_ret2
      exact ⟨rfl, rfl⟩
    · have hd0 : decide (b < 0) = false := by simp; omega
      have hd : decide (9007199254740992 < b) = true := by
        rcases h with h | h | h
        · rw [hl] at h; cases h
        · omega
        · simp only [decide_eq_true_eq]; exact h
      clear hl h h0
      go_enter Tryz.func78, Tryz.ntmps78
      go_wp2_with (go_at_call 150; refine (logged_any _ _ (by assumption)).mono ?_; rintro e w' ⟨rfl, rfl⟩; rw [HL.out])
      go_ret2
      exact ⟨rfl, rfl⟩

end Go.Proofs.YtlgcoaeddeiegaaGreat
/- segment: how one lies; none, End, Base, Size; Create. -/
namespace Go.Proofs.YtlgcoaeddeiegaaGreat
open Go Go.RowKit
attribute [local go_sem] Oper.semAt_some

/-- a segment's own blocks lie there: its head and its index -/
structure SegM (w : World) (s x q : Nat) (nm : ByteArray) (bn step : Nat) (sv : Value) (sp : List Sp) (bs : List Bat) : Prop where
  head : w.heap[s]? = some (.cells #[.int .i64 (bs.length : Int), .int .i64 ((bn + cntT bs : Nat) : Int), .int .i64 ((batsT bs).length : Int), .int .i64 0, .pointer (some ⟨q, 0, none⟩), .string nm, .int .i64 (bn : Int), .pointer (some ⟨x, 0, none⟩)] 250 (0, 0))
  idx : IdxI w x step sv sp
  spots : SpotsOk bn bs sp
  chain : Chain bn bs
  sx : s ≠ x
  sv : ∀ k, sv.ownBlock = some k → k ≠ s ∧ k ≠ x
  stp : 1 ≤ step ∧ step ≤ 16777216
  off : bn ≤ 9007199254740992
  nms : nm.size ≤ 32
/-- a segment lies there with its disk; its file's bytes begin with its batches' (more may stand behind them) -/
structure SegQ (w : World) (S : Nat → Prop) (s x q : Nat) (nm : ByteArray) (bn step : Nat) (sv0 : Value) (sp : List Sp) (bs : List Bat) (d : Dk) : Prop extends SegM w s x q nm bn step sv0 sp bs where
  disk : DiskAt w S q d
  begins : ∃ f tl, d.find nm.data.toList = some f ∧ f.bytes = batsT bs ++ tl
/-- a segment lies there: its head, its index, its disk, its file's bytes -/
structure SegI (w : World) (S : Nat → Prop) (s x q : Nat) (nm : ByteArray) (bn step : Nat) (sv0 : Value) (sp : List Sp) (bs : List Bat) (d : Dk) : Prop extends SegM w s x q nm bn step sv0 sp bs where
  disk : DiskAt w S q d
  file : ∃ f, d.find nm.data.toList = some f ∧ f.bytes = batsT bs
  sS : ¬ S s
  xS : ¬ S x
  vS : ∀ k, sv0.ownBlock = some k → ¬ S k
section
variable {w : World} {S : Nat → Prop} {s x q : Nat} {nm : ByteArray} {bn step : Nat} {sv : Value} {sp : List Sp} {bs : List Bat} {d : Dk}
theorem DiskAt.belowS {w' : World} (h : DiskAt w S q d) (hb : Below w.heap.size w w') : DiskAt w' S q d := by
  obtain ⟨mb, fv, L, h⟩ := h
  exact ⟨mb, fv, L, h.below hb⟩
theorem DiskAt.lowS (h : DiskAt w S q d) : ∀ k, S k → k < w.heap.size := by
  obtain ⟨mb, fv, L, h⟩ := h
  exact h.low
theorem SegM.later {w' : World} (h : SegM w s x q nm bn step sv sp bs) (hb : Below w.heap.size w w') : SegM w' s x q nm bn step sv sp bs :=
  { h with head := (hb.block _ (Array.getElem?_eq_some_iff.1 h.head).1).trans h.head, idx := h.idx.later hb }
theorem SegI.later {w' : World} (h : SegI w S s x q nm bn step sv sp bs d) (hb : Below w.heap.size w w') : SegI w' S s x q nm bn step sv sp bs d :=
  { h with toSegM := h.toSegM.later hb, disk := h.disk.belowS hb }
theorem SegQ.later {w' : World} (h : SegQ w S s x q nm bn step sv sp bs d) (hb : Below w.heap.size w w') : SegQ w' S s x q nm bn step sv sp bs d :=
  { h with toSegM := h.toSegM.later hb, disk := h.disk.belowS hb }
theorem SegI.toQ (h : SegI w S s x q nm bn step sv sp bs d) : SegQ w S s x q nm bn step sv sp bs d := by
  obtain ⟨f, h1, h2⟩ := h.file
  exact ⟨h.toSegM, h.disk, f, [], h1, by rw [h2, List.append_nil]⟩
set_option maxRecDepth 100000 in
set_option maxHeartbeats 400000 in
theorem noneSeg_b (hc : w.cell? ⟨s, 4, none⟩ = some (.pointer (some ⟨q, 0, none⟩))) :
    Calls Tryz.prog 147 #[.pointer (some ⟨s, 0, none⟩)] w fun e w' => e = .returned (.bool false) ∧ w' = w := by
  go_enter Tryz.func147, Tryz.ntmps147
  go_wp2_with fail
  go_ret
  exact ⟨rfl, rfl⟩
set_option maxHeartbeats 400000 in
theorem endM_b (h : SegM w s x q nm bn step sv sp bs) :
    Calls Tryz.prog 87 #[.pointer (some ⟨s, 0, none⟩)] w fun e w' => e = .returned (.int .i64 ((bn + cntT bs : Nat) : Int)) ∧ w' = w := by
  have k4 : w.cell? ⟨s, 4, none⟩ = some (.pointer (some ⟨q, 0, none⟩)) := cell_of h.head rfl
  have k1 : w.cell? ⟨s, 1, none⟩ = some (.int .i64 ((bn + cntT bs : Nat) : Int)) := cell_of h.head rfl
  clear h
  go_enter Tryz.func87, Tryz.ntmps87
  go_wp2_with (go_at_call 147; refine (noneSeg_b k4).mono ?_; rintro e w' ⟨rfl, rfl⟩)
  go_ret
  exact ⟨rfl, rfl⟩
theorem endS_b (h : SegI w S s x q nm bn step sv sp bs d) :
    Calls Tryz.prog 87 #[.pointer (some ⟨s, 0, none⟩)] w fun e w' => e = .returned (.int .i64 ((bn + cntT bs : Nat) : Int)) ∧ w' = w := endM_b h.toSegM
end
/-- a file just put in is found -/
theorem insF_find (f : F0) : ∀ l : List F0, (l.find? (fun g => g.name == f.name)) = none → (insF f l).find? (fun g => g.name == f.name) = some f
  | [], _ => by simp [insF]
  | g :: r, h => by
    unfold insF
    split
    · rw [List.find?_cons] at h ⊢
      cases hb : g.name == f.name with
      | true => rw [hb] at h; cases h
      | false =>
        rw [hb] at h
        exact insF_find f r h
    · simp
theorem create_find {d : Dk} {s : List UInt8} (h : (d.create s).1 = 0) : ∃ f, (d.create s).2.find s = some f ∧ f.bytes = [] := by
  unfold Dk.create at h ⊢
  split at h
  · cases h
  · split at h
    · cases h
    · split at h
      · cases h
      · split at h
        · rename_i h4
          exact absurd h h4
        · rename_i h1 h2 h3 h4
          rw [if_neg h1, if_neg h2, if_neg h3, if_neg h4]
          refine ⟨⟨s, [], 0, true, false⟩, ?_, rfl⟩
          have hn : (d.files.find? (fun g => g.name == s)) = none := by
            cases hf : d.files.find? (fun g => g.name == s) with
            | none => rfl
            | some y => exact absurd (by unfold Dk.at; rw [hf]; rfl) h2
          have := insF_find ⟨s, [], 0, true, false⟩ d.files hn
          unfold Dk.find Dk.at
          show Option.filter _ (List.find? _ (insF _ d.files)) = _
          rw [this]
          rfl
end Go.Proofs.YtlgcoaeddeiegaaGreat
/- segment: Create. -/
namespace Go.Proofs.YtlgcoaeddeiegaaGreat
open Go Go.RowKit
attribute [local go_sem] Oper.semAt_some

def segName (log : ByteArray) (b : Nat) : ByteArray := ⟨(log.data.toList ++ 45 :: hex 14 b).toArray⟩
theorem DiskAt.wider {w : World} {S S' : Nat → Prop} {q : Nat} {d : Dk} (h : DiskAt w S q d) (h1 : ∀ k, S k → S' k) (h2 : ∀ k, S' k → k < w.heap.size) : DiskAt w S' q d := by
  obtain ⟨mb, fv, L, h⟩ := h
  exact ⟨mb, fv, L, h.wider h1 h2⟩
theorem segName_size {log : ByteArray} {b : Nat} (h : log.size ≤ 8) : (segName log b).size ≤ 32 := by
  have e : log.data.toList.length = log.size := by simp
  have e2 : (segName log b).size = (log.data.toList ++ 45 :: hex 14 b).length := rfl
  rw [e2, List.length_append, List.length_cons, hex_length, e]
  omega
/-- what Create answers -/
def CreS (w : World) (S : Nat → Prop) (q : Nat) (d : Dk) (log : ByteArray) (b st : Int) (e : Ending) (w' : World) : Prop :=
  ((b < 0 ∨ 9007199254740992 < b ∨ st < 1 ∨ 16777216 < st) ∧ e = .returned (.tuple #[.pointer none, .int .i64 2]) ∧ Below w.heap.size w w') ∨
  (∃ bn step : Nat, b = (bn : Int) ∧ st = (step : Int) ∧ bn ≤ 9007199254740992 ∧ 1 ≤ step ∧ step ≤ 16777216 ∧
    (((d.create (segName log bn).data.toList).1 ≠ 0 ∧ e = .returned (.tuple #[.pointer none, .int .i64 (d.create (segName log bn).data.toList).1]) ∧ DiskAt w' (Wid S w w') q (d.create (segName log bn).data.toList).2 ∧ Only S w w') ∨
     ((d.create (segName log bn).data.toList).1 = 0 ∧ ∃ s x S', e = .returned (.tuple #[.pointer (some ⟨s, 0, none⟩), .int .i64 0]) ∧ (∀ k, S' k → Wid S w w' k) ∧ w.heap.size ≤ s ∧ w.heap.size ≤ x ∧
      SegI w' S' s x q (segName log bn) bn step (.slice none 0 0) [] [] (d.create (segName log bn).data.toList).2 ∧ Only S w w')))
set_option maxRecDepth 100000 in
set_option maxHeartbeats 1000000 in
theorem createS_b {w : World} {S : Nat → Prop} {q : Nat} {d : Dk} (h : DiskAt w S q d) (log : ByteArray) (hl : log.size ≤ 8) (hlog : loggedB log.data.toList = true) (b st : Int) :
    Calls Tryz.prog 64 #[.pointer (some ⟨q, 0, none⟩), .string log, .int .i64 b, .int .i64 st] w fun e w' => CreS w S q d log b st e w' := by
  have hs' : log.size ≤ maxLen := by unfold maxLen; omega
  by_cases hb : b < 0 ∨ 9007199254740992 < b
  · have HR := Lib.hid hb
    go_enter Tryz.func64, Tryz.ntmps64
    go_wp2_with (go_at_call 78; refine (name_no log b _ hs' (.inr HR.out)).mono ?_; rintro e w' ⟨rfl, rfl⟩)
    refine idxNew_b.mono ?_
    rintro e w' hN
    rcases hN with ⟨hst, rfl, rfl⟩ | ⟨h1, h2, rfl, rfl⟩
    · go_wp2_with fail
      go_ret2
      exact .inl ⟨by rcases HR.out with h | h; exact .inl h; exact .inr (.inl h), rfl, Below.refl _ _⟩
    · go_wp2_with fail
      go_ret2
      exact .inl ⟨by rcases HR.out with h | h; exact .inl h; exact .inr (.inl h), rfl, (Below.refl _ _).alloc (Nat.le_refl _) _⟩
  · obtain ⟨bn, rfl⟩ : ∃ n : Nat, b = (n : Int) := ⟨b.toNat, by omega⟩
    have hbn : bn ≤ 9007199254740992 := by omega
    clear hb
    have HB := Lib.hid hbn
    obtain ⟨nm, hnm⟩ : ∃ nm, nm = segName log bn := ⟨_, rfl⟩
    have hz : nm.size ≤ 32 := by rw [hnm]; exact segName_size hl
    have HNM := Lib.hid hnm
    have hna := name_ok log bn w hl hlog hbn
    rw [show (⟨(log.data.toList ++ 45 :: hex 14 bn).toArray⟩ : ByteArray) = nm from hnm.symm] at hna
    have HNA := Lib.hid hna
    clear hna hnm hbn
    go_enter Tryz.func64, Tryz.ntmps64
    go_wp2_with (go_at_call 78; refine HNA.out.mono ?_; rintro e w1 ⟨rfl, hb1⟩; have HB1 := Lib.hid hb1; clear hb1)
    refine idxNew_b.mono ?_
    rintro e w2 hN
    rcases hN with ⟨hst, rfl, rfl⟩ | ⟨h1, h2, rfl, rfl⟩
    · have HST := Lib.hid hst
      clear hst
      go_wp2_with fail
      go_ret2
      exact .inl ⟨.inr (.inr HST.out), rfl, HB1.out⟩
    · obtain ⟨step, rfl⟩ : ∃ n : Nat, st = (n : Int) := ⟨st.toNat, by omega⟩
      have HST : Hid (1 ≤ step ∧ step ≤ 16777216) := Lib.hid ⟨by omega, by omega⟩
      clear h1 h2
      obtain ⟨x, hx⟩ : ∃ x, x = w1.heap.size := ⟨_, rfl⟩
      obtain ⟨w2, hw2⟩ : ∃ w2 : World, w2 = w1.alloc (.cells #[.int .i64 (step : Int), .slice none 0 0] 311) := ⟨_, rfl⟩
      have hx2 : w2.heap[x]? = some (.cells #[.int .i64 (step : Int), .slice none 0 0] 311 (0, 0)) := by rw [hw2, hx]; exact alloc_cells _ _ _
      have hb2 : Below w.heap.size w w2 := by rw [hw2]; exact HB1.out.alloc HB1.out.size _
      have hxw : w.heap.size ≤ x := by rw [hx]; exact HB1.out.size
      have HX := Lib.hid (And.intro hx2 (And.intro hb2 hxw))
      have hd2 : DiskAt w2 S q d := h.belowS hb2
      rw [← hw2, ← hx]
      clear hw2 hx hx2 hb2 hxw
      go_wp2_with fail
      refine (create_b hd2 nm (Nat.le_trans hz (by decide))).mono ?_
      rintro e w3 ⟨he, hd3, ho3⟩
      obtain ⟨r, hr⟩ : ∃ r, r = d.create nm.data.toList := ⟨_, rfl⟩
      rw [← hr] at he hd3
      subst he
      have HR := Lib.hid hr
      have HO := Lib.hid ho3
      have HD := Lib.hid hd3
      clear hr ho3 hd3
      cases hc : (r.1 == 0) with
      | false =>
        have HC := Lib.hid hc
        have d1 : (r.1 != 0) = true := by unfold bne; rw [hc]; rfl
        clear hc
        go_wp2_with fail
        go_ret2
        have hb2 := HX.out.2.1
        have ho : Only S w w3 := (Only.of_below hb2 (Nat.le_refl _) S).trans HO.out (fun _ _ h => h)
        refine .inr ⟨bn, step, rfl, rfl, HB.out, HST.out.1, HST.out.2, .inl ?_⟩
        rw [← HNM.out, ← HR.out]
        refine ⟨fun h0 => (by rw [beq_eq_false_iff_ne] at HC; exact HC h0), rfl, ?_, ho⟩
        refine HD.out.wider (fun k hk => ?_) (fun k hk => ?_)
        · rcases hk with hk | hk
          · exact .inl hk
          · exact .inr ⟨Nat.le_trans hb2.size hk.1, hk.2⟩
        · rcases hk with hk | hk
          · exact Nat.lt_of_lt_of_le (h.lowS k hk) ho.size
          · exact hk.2
      | true =>
        have hr0 : r.1 = 0 := beq_iff_eq.1 hc
        have HC := Lib.hid hr0
        rw [hr0]
        clear hc hr0
        go_wp2_with fail
        go_ret2
        have hb2 := HX.out.2.1
        have ho : Only S w w3 := (Only.of_below hb2 (Nat.le_refl _) S).trans HO.out (fun _ _ h => h)
        have hxn : ¬ S x := fun hk => Nat.lt_irrefl _ (Nat.lt_of_lt_of_le (h.lowS x hk) HX.out.2.2)
        have hxl : x < w2.heap.size := (Array.getElem?_eq_some_iff.1 HX.out.1).1
        have hx3 : w3.heap[x]? = some (.cells #[.int .i64 (step : Int), .slice none 0 0] 311 (0, 0)) := (HO.out.block x hxl hxn).trans HX.out.1
        refine .inr ⟨bn, step, rfl, rfl, HB.out, HST.out.1, HST.out.2, .inr ?_⟩
        rw [← HNM.out, ← HR.out]
        obtain ⟨w4, hw4⟩ : ∃ w4 : World, w4 = w3.alloc (.cells #[.int .i64 0, .int .i64 (bn : Int), .int .i64 0, .int .i64 0, .pointer (some ⟨q, 0, none⟩), .string nm, .int .i64 (bn : Int), .pointer (some ⟨x, 0, none⟩)] 250) := ⟨_, rfl⟩
        have h34 : Below w3.heap.size w3 w4 := by rw [hw4]; exact (Below.refl _ _).alloc (Nat.le_refl _) _
        have hs4 : w4.heap[w3.heap.size]? = some (.cells #[.int .i64 0, .int .i64 (bn : Int), .int .i64 0, .int .i64 0, .pointer (some ⟨q, 0, none⟩), .string nm, .int .i64 (bn : Int), .pointer (some ⟨x, 0, none⟩)] 250 (0, 0)) := by rw [hw4]; exact alloc_cells _ _ _
        have hsz4 : w3.heap.size < w4.heap.size := (Array.getElem?_eq_some_iff.1 hs4).1
        have ho4 : Only S w w4 := ho.trans (Only.of_below h34 (Nat.le_refl _) S) (fun _ _ h => h)
        rw [← hw4]
        refine ⟨HC.out, w3.heap.size, x, Wid S w2 w3, rfl, fun k hk => ?_, ho.size, HX.out.2.2, ?_, ho4⟩
        · rcases hk with hk | hk
          · exact .inl hk
          · exact .inr ⟨Nat.le_trans hb2.size hk.1, Nat.lt_trans hk.2 hsz4⟩
        · have hf := create_find (d := d) (s := nm.data.toList) (by rw [← HR.out]; exact HC.out)
          rw [← HR.out] at hf
          exact {
            head := hs4
            idx := ⟨(h34.block x (Array.getElem?_eq_some_iff.1 hx3).1).trans hx3, by simp [spsCells], .inl ⟨rfl, rfl⟩⟩
            spots := SpotsOk.nil bn
            chain := Chain.nil bn
            disk := HD.out.belowS h34
            file := hf
            sS := fun hk => by
              rcases hk with hk | hk
              · exact absurd (h.lowS _ hk) (Nat.not_lt.2 ho.size)
              · exact Nat.lt_irrefl _ hk.2
            xS := fun hk => by
              rcases hk with hk | hk
              · exact hxn hk
              · exact Nat.not_lt.2 hk.1 hxl
            vS := fun k hk => by simp [Value.ownBlock] at hk
            sx := fun he => Nat.lt_irrefl _ (by have := Nat.lt_of_lt_of_le hxl HO.out.size; rw [← he] at this; exact this)
            sv := fun k hk => by simp [Value.ownBlock] at hk
            stp := HST.out
            off := HB.out
            nms := hz }
end Go.Proofs.YtlgcoaeddeiegaaGreat
/- Segment names: segment.Parse. -/
namespace Go.Proofs.YtlgcoaeddeiegaaGreat
open Go.RowKit

def isHex (c : UInt8) : Bool := (48 ≤ c && c ≤ 57) || (97 ≤ c && c ≤ 102)
def hval (c : UInt8) : Nat := if c ≤ 57 then c.toNat - 48 else c.toNat - 87
def hnum (l : List UInt8) : Nat := l.foldl (fun v c => 16 * v + hval c) 0
theorem hnum_snoc (l : List UInt8) (c : UInt8) : hnum (l ++ [c]) = 16 * hnum l + hval c := by simp [hnum]
theorem hval_lt (c : UInt8) (h : isHex c = true) : hval c < 16 := by
  simp [isHex, UInt8.le_iff_toNat_le] at h
  unfold hval
  simp only [UInt8.le_iff_toNat_le]
  split <;> (simp at *; omega)
theorem hnum_lt (l : List UInt8) : ∀ k, k ≤ l.length → (l.take k).all isHex = true → hnum (l.take k) < 16 ^ k := by
  intro k
  induction k with
  | zero => intro _ _; simp [hnum]
  | succ k ih =>
    intro hk h
    rw [List.take_succ_eq_append_getElem (by omega)] at h ⊢
    rw [List.all_append, Bool.and_eq_true] at h
    have h1 := ih (by omega) h.1
    have h2 := hval_lt _ (by simpa using h.2)
    rw [hnum_snoc, Nat.pow_succ]
    omega

/-- the digits of a name -/
def digs (l : List UInt8) : List UInt8 := l.drop (l.length - 14)
/-- is it a segment's name? -/
def okName (l : List UInt8) : Bool :=
  decide (16 ≤ l.length) && (digs l).all isHex && loggedB (l.take (l.length - 15)) && (l[l.length - 15]? == some 45) && decide (hnum (digs l) ≤ 9007199254740992)

theorem or_hex (v d : Nat) (hv : v < 4503599627370496) (hd : d < 16) : bits .or .i64 (wrap64 ((v : Int) * 16)) (d : Int) = ((16 * v + d : Nat) : Int) := by
  have hw : wrap64 ((v : Int) * 16) = ((2 ^ 4 * v : Nat) : Int) := by unfold wrap64; omega
  have hlt : 2 ^ 4 * v ||| d < 2 ^ 63 := Nat.or_lt_two_pow (by omega) (by omega)
  have hj := Nat.two_pow_add_eq_or_of_lt (i := 4) (b := d) (by omega) v
  rw [hw]
  show IntKind.i64.wrap ((BitVec.ofInt 64 ((2 ^ 4 * v : Nat) : Int) ||| BitVec.ofInt 64 (d : Int)).toNat : Nat) = _
  have key : (BitVec.ofInt 64 ((2 ^ 4 * v : Nat) : Int) ||| BitVec.ofInt 64 (d : Int)).toNat = 2 ^ 4 * v ||| d := by
    rw [BitVec.toNat_or, BitVec.toNat_ofInt, BitVec.toNat_ofInt]
    congr 1 <;> omega
  rw [key, IntKind.wrap_i64, ← hj]
  omega

theorem hexd_hval (c : UInt8) (h : isHex c = true) : hexd (hval c) = c := by
  have : ∀ n : Fin 256, isHex (UInt8.ofNat n.val) = true → hexd (hval (UInt8.ofNat n.val)) = UInt8.ofNat n.val := by decide +kernel
  have hc := this ⟨c.toNat, c.toNat_lt⟩
  simp only [UInt8.ofNat_toNat] at hc
  exact hc h
theorem hex_hnum (l : List UInt8) : ∀ k, k ≤ l.length → (l.take k).all isHex = true → hex k (hnum (l.take k)) = l.take k := by
  intro k
  induction k with
  | zero => intro _ _; simp [hex]
  | succ k ih =>
    intro hk h
    rw [List.take_succ_eq_append_getElem (by omega)] at h ⊢
    rw [List.all_append, Bool.and_eq_true] at h
    have h1 := ih (by omega) h.1
    have hc : isHex (l[k]'(by omega)) = true := by simpa using h.2
    have h2 := hval_lt _ hc
    rw [hnum_snoc, hex, show (16 * hnum (l.take k) + hval l[k]) / 16 = hnum (l.take k) by omega, show (16 * hnum (l.take k) + hval l[k]) % 16 = hval l[k] by omega, h1, hexd_hval _ hc]

theorem digs_length (l : List UInt8) (h : 16 ≤ l.length) : (digs l).length = 14 := by simp [digs]; omega
theorem digs_bad (l : List UInt8) (k : Nat) (h : 16 ≤ l.length) (hk : k < 14) (hc : isHex ((digs l).getD k 0) = false) : okName l = false := by
  have hl := digs_length l h
  have : (digs l).all isHex = false := by
    rw [List.all_eq_false]
    refine ⟨(digs l)[k]'(by omega), List.getElem_mem _, ?_⟩
    simp only [List.getD_eq_getElem?_getD, List.getElem?_eq_getElem (show k < (digs l).length by omega), Option.getD_some] at hc
    simp [hc]
  simp [okName, this]
theorem name_parts (l : List UInt8) (h : 16 ≤ l.length) : l = l.take (l.length - 15) ++ (l[l.length - 15]'(by omega)) :: digs l := by
  have h1 := List.take_append_drop (l.length - 15) l
  have h2 : l.drop (l.length - 15) = (l[l.length - 15]'(by omega)) :: l.drop (l.length - 15 + 1) := List.drop_eq_getElem_cons (by omega)
  have h3 : l.length - 15 + 1 = l.length - 14 := by omega
  rw [h2, h3] at h1
  exact h1.symm
/-- the name that the digits give back is the name itself, just where the dash stands -/
theorem back_eq (l : List UInt8) (h : 16 ≤ l.length) (hx : (digs l).all isHex = true) :
    (l.take (l.length - 15) ++ 45 :: hex 14 (hnum (digs l)) = l) ↔ l[l.length - 15]? = some 45 := by
  have hl := digs_length l h
  have hh := hex_hnum (digs l) 14 (by omega) (by rw [List.take_of_length_le (by omega)]; exact hx)
  rw [List.take_of_length_le (by omega)] at hh
  rw [hh]
  constructor
  · intro he
    have : l[l.length - 15]? = (l.take (l.length - 15) ++ 45 :: digs l)[l.length - 15]? := by rw [he]
    rw [this, List.getElem?_append_right (by simp)]
    simp
  · intro he
    have hp := name_parts l h
    rw [List.getElem?_eq_getElem (by omega)] at he
    simp only [Option.some.injEq] at he
    rw [he] at hp
    exact hp.symm

/-- what Parse answers -/
def ParsePost (s : ByteArray) (e : Ending) : Prop :=
  (okName s.data.toList = true → e = .returned (.tuple #[.string (s.extract 0 (s.size - 15)), .int .i64 ((hnum (digs s.data.toList) : Nat) : Int), .bool true])) ∧
  (okName s.data.toList = false → e = .returned (.tuple #[.string ⟨#[]⟩, .int .i64 0, .bool false]))

theorem ParsePost.bad {s : ByteArray} (h : okName s.data.toList = false) : ParsePost s (.returned (.tuple #[.string ⟨#[]⟩, .int .i64 0, .bool false])) :=
  ⟨fun h' => (by rw [h] at h'; cases h'), fun _ => rfl⟩
theorem ParsePost.good {s : ByteArray} (h : okName s.data.toList = true) {a b : Value} (ha : a = .string (s.extract 0 (s.size - 15))) (hb : b = .int .i64 ((hnum (digs s.data.toList) : Nat) : Int)) :
    ParsePost s (.returned (.tuple #[a, b, .bool true])) :=
  ⟨fun _ => by rw [ha, hb], fun h' => (by rw [h] at h'; cases h')⟩

theorem name_ok' (s bk : ByteArray) (b : Nat) (w : World) (hs : s.size ≤ 8) (hl : loggedB s.data.toList = true) (hb : b ≤ 9007199254740992) (hbk : bk = ⟨(s.data.toList ++ 45 :: hex 14 b).toArray⟩) :
    Calls Tryz.prog 78 #[.string s, .int .i64 b] w fun e w' => e = .returned (.tuple #[.string bk, .int .i64 0]) ∧ Below w.heap.size w w' := by
  subst hbk
  exact name_ok s b w hs hl hb

theorem loggedB_len (l : List UInt8) (h : loggedB l = true) : 1 ≤ l.length ∧ l.length ≤ 8 := by
  simp [loggedB] at h
  omega

set_option maxRecDepth 100000 in
set_option maxHeartbeats 1000000 in
theorem parse_long (s : ByteArray) (w : World) (hs : s.size ≤ maxLen) (h16 : 16 ≤ s.size) :
    Calls Tryz.prog 19 #[.string s] w fun e w' => ParsePost s e ∧ Below w.heap.size w w' := by
  have hs0 := hs
  unfold maxLen at hs
  have hlen : s.data.toList.length = s.size := by simp
  obtain ⟨cap, w1, hrun, hcap, hcell, hbl, hsz⟩ := run_bytes_read (P := Tryz.prog) w 9 39 5 (s.extract (s.size - 14) s.size) Tryz.underlying9 Tryz.underlying39 Tryz.underlying5
  have HX := Lib.hid hsz
  clear hsz
  have h14 : s.size - (s.size - 14) = 14 := by omega
  obtain ⟨ds, hds⟩ : ∃ ds, ds = digs s.data.toList := ⟨_, rfl⟩
  have hdl : ds.length = 14 := by rw [hds]; exact digs_length _ (by omega)
  have hcell' : ∀ j, j < 14 → w1.cell? ⟨w.heap.size, j, none⟩ = some (.int .u8 ((ds.getD j 0).toNat : Int)) := by
    intro j hj
    have hsz : (s.extract (s.size - 14) s.size).size = 14 := by simp; omega
    rw [hcell j (by omega)]
    have e : (s.extract (s.size - 14) s.size)[j]'(by omega) = ds.getD j 0 := by
      rw [hds, digs, List.getD_eq_getElem?_getD, List.getElem?_drop, hlen]
      rw [ByteArray.getElem_extract]
      rw [List.getElem?_eq_getElem (by simp; omega)]
      rfl
    rw [e]
  have HDS := Lib.hid hds
  have HDL := Lib.hid hdl
  have HLEN := Lib.hid hlen
  clear hds hcell hcap hdl hlen
  go_enter Tryz.func19, Tryz.ntmps19
  go_wp2
  go_loop [6, 23] (fun c i => ∃ k v : Nat, k ≤ 14 ∧ i = .int .i64 k ∧ c = .int .i64 v ∧ Hid ((ds.take k).all isHex = true ∧ v = hnum (ds.take k))) (fun _ i => (14 - intOf i).toNat)
  case atStart => exact ⟨0, 0, by omega, rfl, rfl, Lib.hid (by simp [hnum])⟩
  case round =>
    obtain ⟨k, v, hk, rfl, rfl, HV⟩ := hrel
    by_cases hlt : k < 14
    · obtain ⟨c, hc⟩ : ∃ c, c = ds.getD k 0 := ⟨_, rfl⟩
      have hck := hcell' k hlt
      rw [← hc] at hck
      have HC := Lib.hid hc
      clear hc hcell'
      have HT : Hid (ds.take (k + 1) = ds.take k ++ [c]) := by
        refine Lib.hid ?_
        have := HDL.out
        rw [List.take_succ_eq_append_getElem (by omega), HC.out]
        simp [List.getD_eq_getElem?_getD, List.getElem?_eq_getElem (show k < ds.length by omega)]
      have HB : Hid (v < 4503599627370496) := by
        refine Lib.hid ?_
        have h1 := hnum_lt ds k (by have := HDL.out; omega) HV.out.1
        have h2 : 16 ^ k ≤ 16 ^ 13 := Nat.pow_le_pow_right (by decide) (by omega)
        rw [HV.out.2]
        have h3 : (16 : Nat) ^ 13 = 4503599627370496 := by decide
        omega
      by_cases hc1 : 48 ≤ (c.toNat : Int) ∧ (c.toNat : Int) ≤ 57
      · obtain ⟨hc1, hc2⟩ := hc1
        have HH : Hid (isHex c = true ∧ hval c = c.toNat - 48) := Lib.hid (by simp [isHex, hval, UInt8.le_iff_toNat_le]; omega)
        go_wp2
        go_round
        case rel =>
          refine ⟨k + 1, 16 * v + hval c, by omega, by go_num, ?_, Lib.hid ⟨?_, ?_⟩⟩
          · have := or_hex v (hval c) HB.out (hval_lt c HH.out.1)
            rw [show ((hval c : Nat) : Int) = (c.toNat : Int) - 48 by rw [HH.out.2]; omega] at this
            rw [this]
          · rw [HT.out, List.all_append, HV.out.1]; simp [HH.out.1]
          · rw [HT.out, hnum_snoc, HV.out.2]
        case measure => simp [intOf]; omega
      · by_cases hc3 : 97 ≤ (c.toNat : Int) ∧ (c.toNat : Int) ≤ 102
        · obtain ⟨hc3, hc4⟩ := hc3
          have HH : Hid (isHex c = true ∧ hval c = c.toNat - 87) := Lib.hid (by simp [isHex, hval, UInt8.le_iff_toNat_le]; omega)
          clear hc1
          go_wp2
          go_round
          case rel =>
            refine ⟨k + 1, 16 * v + hval c, by omega, by go_num, ?_, Lib.hid ⟨?_, ?_⟩⟩
            · have := or_hex v (hval c) HB.out (hval_lt c HH.out.1)
              rw [show ((hval c : Nat) : Int) = (c.toNat : Int) - 97 + 10 by rw [HH.out.2]; omega] at this
              rw [this]
            · rw [HT.out, List.all_append, HV.out.1]; simp [HH.out.1]
            · rw [HT.out, hnum_snoc, HV.out.2]
          case measure => simp [intOf]; omega
        · have HF : Hid (okName s.data.toList = false) := by
            refine Lib.hid (digs_bad _ k (by rw [HLEN.out]; exact h16) hlt ?_)
            rw [← HDS.out, ← HC.out]
            simp [isHex, UInt8.le_iff_toNat_le]
            omega
          go_wp2
          all_goals (go_ret3; exact ⟨ParsePost.bad HF.out, hbl⟩)
    · obtain rfl : k = 14 := by omega
      have HP : Hid ((s.extract 0 (s.size - 14 - 1)).data.toList = s.data.toList.take (s.size - 15)) := by
        refine Lib.hid ?_
        simp
        omega
      have HALL : Hid ((digs s.data.toList).all isHex = true ∧ v = hnum (digs s.data.toList)) := by
        refine Lib.hid ?_
        have h1 := HV.out
        rw [List.take_of_length_le (by have := HDL.out; omega), HDS.out] at h1
        exact h1
      have hps : (s.extract 0 (s.size - 14 - 1)).size ≤ s.size := by simp; omega
      clear hlt hk hcell'
      by_cases hg : loggedB (s.data.toList.take (s.size - 15)) = true ∧ v ≤ 9007199254740992
      · obtain ⟨hg1, hg2⟩ := hg
        have h8 : (s.extract 0 (s.size - 14 - 1)).size ≤ 8 := by
          have := (loggedB_len _ hg1).2
          simp at this ⊢
          omega
        obtain ⟨bk, hbk⟩ : ∃ bk : ByteArray, bk = ⟨((s.extract 0 (s.size - 14 - 1)).data.toList ++ 45 :: hex 14 v).toArray⟩ := ⟨_, rfl⟩
        have hback : bk = s ↔ s.data.toList[s.data.toList.length - 15]? = some 45 := by
          rw [← back_eq _ (by rw [HLEN.out]; exact h16) HALL.out.1, ← HALL.out.2, HLEN.out, hbk, HP.out]
          constructor
          · intro h
            have := congrArg (fun b : ByteArray => b.data.toList) h
            simpa using this
          · intro h
            apply ByteArray.ext
            apply Array.ext'
            simpa using h
        have hok : okName s.data.toList = (s.data.toList[s.data.toList.length - 15]? == some 45) := by
          unfold okName
          rw [HLEN.out, HALL.out.1, hg1, ← HALL.out.2]
          simp [hg2, h16]
        have HG := Lib.hid hg1
        have HG2 := Lib.hid hg2
        have HBK := Lib.hid hbk
        by_cases hd : s.data.toList[s.data.toList.length - 15]? = some 45
        · have hbs := str_eq_true (hback.2 hd)
          have HOK : Hid (okName s.data.toList = true) := Lib.hid (by rw [hok, hd]; rfl)
          clear hback hok hd hg1 hg2 hbk
          go_wp2_with fail
          refine (name_ok' _ bk v _ h8 (by rw [HP.out]; exact HG.out) HG2.out HBK.out).mono ?_
          rintro e w' ⟨rfl, hb2⟩
          go_wp2
          go_ret3
          exact ⟨ParsePost.good (a := .string (s.extract 0 (s.size - 14 - 1))) (b := .int .i64 (v : Int)) HOK.out (by rw [show s.size - 14 - 1 = s.size - 15 by omega]) (by rw [← HALL.out.2]), hbl.trans (hb2.mono hbl.size)⟩
        · have hbs := str_eq_false (fun h => hd (hback.1 h))
          have HOK : Hid (okName s.data.toList = false) := Lib.hid (by rw [hok]; simpa using hd)
          clear hback hok hd hg1 hg2 hbk
          go_wp2_with fail
          refine (name_ok' _ bk v _ h8 (by rw [HP.out]; exact HG.out) HG2.out HBK.out).mono ?_
          rintro e w' ⟨rfl, hb2⟩
          go_wp2
          go_ret3
          exact ⟨ParsePost.bad HOK.out, hbl.trans (hb2.mono hbl.size)⟩
      · have HOK : Hid (okName s.data.toList = false) := by
          refine Lib.hid ?_
          unfold okName
          rw [HLEN.out, ← HALL.out.2]
          cases hl : loggedB (s.data.toList.take (s.size - 15)) with
          | false => simp
          | true =>
            have : ¬ v ≤ 9007199254740992 := fun h => hg ⟨hl, h⟩
            simp [this]
        have HN : Hid (loggedB (s.extract 0 (s.size - 14 - 1)).data.toList = false ∨ (v : Int) < 0 ∨ 9007199254740992 < (v : Int)) := by
          refine Lib.hid ?_
          rw [HP.out]
          cases hl : loggedB (s.data.toList.take (s.size - 15)) with
          | false => exact .inl rfl
          | true =>
            have : ¬ v ≤ 9007199254740992 := fun h => hg ⟨hl, h⟩
            exact .inr (.inr (by omega))
        clear hg
        go_wp2_with fail
        refine (name_no _ _ _ (by unfold maxLen; omega) HN.out).mono ?_
        rintro e w' ⟨rfl, rfl⟩
        go_wp2
        go_ret3
        exact ⟨ParsePost.bad HOK.out, hbl⟩

set_option maxRecDepth 100000 in
set_option maxHeartbeats 400000 in
theorem parse_any (s : ByteArray) (w : World) (hs : s.size ≤ maxLen) :
    Calls Tryz.prog 19 #[.string s] w fun e w' => ParsePost s e ∧ Below w.heap.size w w' := by
  by_cases h16 : 16 ≤ s.size
  · exact parse_long s w hs h16
  · have HOK : Hid (okName s.data.toList = false) := Lib.hid (by simp [okName]; omega)
    unfold maxLen at hs
    go_enter Tryz.func19, Tryz.ntmps19
    go_wp2
    go_ret3
    exact ⟨ParsePost.bad HOK.out, Below.refl _ _⟩
end Go.Proofs.YtlgcoaeddeiegaaGreat
/- A log of segments, plainly: its segments' names, their order. -/
namespace Go.Proofs.YtlgcoaeddeiegaaGreat
open Go Go.RowKit

theorem hexd_okL : ∀ d : Nat, d < 16 → isHex (hexd d) = true ∧ hval (hexd d) = d := by decide
theorem hex_numL : ∀ n b, (hex n b).all isHex = true ∧ hnum (hex n b) = b % 16 ^ n
  | 0, b => ⟨rfl, by simp [hex, hnum, Nat.mod_one]⟩
  | n + 1, b => by
    obtain ⟨h1, h2⟩ := hex_numL n (b / 16)
    obtain ⟨h3, h4⟩ := hexd_okL (b % 16) (by omega)
    refine ⟨?_, ?_⟩
    · rw [hex, List.all_append, h1]
      simp [h3]
    · rw [hex, hnum_snoc, h2, h4, Nat.pow_succ', Nat.mod_mul]
      omega
/-- a segment's name, byte by byte -/
def sname (log : ByteArray) (b : Nat) : List UInt8 := log.data.toList ++ 45 :: hex 14 b
theorem segName_data (log : ByteArray) (b : Nat) : (segName log b).data.toList = sname log b := rfl
theorem sname_len (log : ByteArray) (b : Nat) : (sname log b).length = log.size + 15 := by
  unfold sname
  rw [List.length_append, List.length_cons, hex_length]
  simp
/-- is it the name of a segment of the log? -/
def ofLog (log : ByteArray) (s : List UInt8) : Bool := okName s && (s.take (s.length - 15) == log.data.toList)
theorem sname_parts (log : ByteArray) (b : Nat) : digs (sname log b) = hex 14 b ∧ (sname log b).take ((sname log b).length - 15) = log.data.toList ∧ (sname log b)[(sname log b).length - 15]? = some 45 := by
  have hz : log.data.toList.length = log.size := by simp
  refine ⟨?_, ?_, ?_⟩
  · unfold digs
    rw [sname_len, show log.size + 15 - 14 = log.data.toList.length + 1 by omega]
    unfold sname
    rw [List.drop_append, List.drop_of_length_le (by omega), Nat.add_sub_cancel_left]
    rfl
  · rw [sname_len, show log.size + 15 - 15 = log.data.toList.length by omega]
    unfold sname
    rw [List.take_append_of_le_length (Nat.le_refl _), List.take_length]
  · rw [sname_len, show log.size + 15 - 15 = log.data.toList.length by omega]
    unfold sname
    rw [List.getElem?_append_right (Nat.le_refl _), Nat.sub_self]
    rfl
theorem sname_ok {log : ByteArray} (hlog : loggedB log.data.toList = true) {b : Nat} (h : b ≤ 9007199254740992) : okName (sname log b) = true ∧ hnum (digs (sname log b)) = b := by
  obtain ⟨h1, h2, h3⟩ := sname_parts log b
  obtain ⟨g1, g2⟩ := hex_numL 14 b
  rw [Nat.mod_eq_of_lt (by omega)] at g2
  have hl := loggedB_len _ hlog
  have hz : log.data.toList.length = log.size := by simp
  rw [h1]
  refine ⟨?_, g2⟩
  unfold okName
  have h3' : (sname log b)[(sname log b).length - 15]? == some 45 := by rw [h3]; rfl
  rw [h1, g1, g2, h2, hlog, h3', sname_len, decide_eq_true (show 16 ≤ log.size + 15 by omega), decide_eq_true h]
  rfl
theorem sname_of {log : ByteArray} (hlog : loggedB log.data.toList = true) {b : Nat} (h : b ≤ 9007199254740992) : ofLog log (sname log b) = true := by
  unfold ofLog
  rw [(sname_ok hlog h).1, (sname_parts log b).2.1]
  simp
theorem sname_inj {log : ByteArray} (hlog : loggedB log.data.toList = true) {b c : Nat} (h : b ≤ 9007199254740992) (h' : c ≤ 9007199254740992) (e : sname log b = sname log c) : b = c := by
  rw [← (sname_ok hlog h).2, e, (sname_ok hlog h').2]
/-- a name of the log is its segment's name -/
theorem of_sname {log : ByteArray} {s : List UInt8} (h : ofLog log s = true) : ∃ b, b ≤ 9007199254740992 ∧ s = sname log b ∧ hnum (digs s) = b := by
  unfold ofLog at h
  rw [Bool.and_eq_true] at h
  obtain ⟨h1, h2⟩ := h
  have h2 : s.take (s.length - 15) = log.data.toList := by simpa using h2
  unfold okName at h1
  simp only [Bool.and_eq_true, decide_eq_true_eq, beq_iff_eq] at h1
  obtain ⟨⟨⟨⟨g1, g2⟩, g3⟩, g4⟩, g5⟩ := h1
  refine ⟨hnum (digs s), g5, ?_, rfl⟩
  have hx := hex_hnum (digs s) 14 (by rw [digs_length s g1]; exact Nat.le_refl _) (by rw [List.take_of_length_le (by rw [digs_length s g1]; exact Nat.le_refl _)]; exact g2)
  rw [List.take_of_length_le (by rw [digs_length s g1]; exact Nat.le_refl _)] at hx
  unfold sname
  rw [hx, ← h2]
  have := name_parts s g1
  rw [List.getElem?_eq_getElem (by omega)] at g4
  rw [Option.some.inj g4] at this
  exact this
theorem hexd_lt : ∀ a : Fin 16, ∀ b : Fin 16, a.val < b.val → hexd a.val < hexd b.val := by decide
theorem hexd_lt' {a b : Nat} (h : a < b) (hb : b < 16) : hexd a < hexd b := hexd_lt ⟨a, by omega⟩ ⟨b, hb⟩ h
theorem hex_mod : ∀ n b, hex n (b % 16 ^ n) = hex n b
  | 0, _ => rfl
  | n + 1, b => by
    have h1 : b % 16 ^ (n + 1) / 16 = b / 16 % 16 ^ n := by rw [Nat.pow_succ, Nat.mul_comm]; exact Nat.mod_mul_right_div_self ..
    have h2 : b % 16 ^ (n + 1) % 16 = b % 16 := by rw [Nat.pow_succ]; exact Nat.mod_mul_left_mod ..
    rw [hex, hex, h1, h2, hex_mod n]
theorem hex_lt : ∀ n a b, a < b → b < 16 ^ n → hex n a < hex n b
  | 0, _, _, h, hb => by simp at hb; omega
  | n + 1, a, b, h, hb => by
    rw [hex_cons, hex_cons]
    have hp : 0 < 16 ^ n := Nat.pos_of_ne_zero (by simp)
    have hq : b / 16 ^ n < 16 := Nat.div_lt_of_lt_mul (by rw [Nat.pow_succ] at hb; exact hb)
    have hle : a / 16 ^ n ≤ b / 16 ^ n := Nat.div_le_div_right (Nat.le_of_lt h)
    rw [Nat.mod_eq_of_lt (by omega : a / 16 ^ n < 16), Nat.mod_eq_of_lt hq]
    by_cases he : a / 16 ^ n = b / 16 ^ n
    · rw [he]
      refine List.Lex.cons ?_
      have h1 := Nat.div_add_mod a (16 ^ n)
      have h2 := Nat.div_add_mod b (16 ^ n)
      rw [he] at h1
      have := hex_lt n (a % 16 ^ n) (b % 16 ^ n) (by omega) (Nat.mod_lt _ hp)
      rwa [hex_mod, hex_mod] at this
    · exact List.Lex.rel (hexd_lt' (by omega) hq)
theorem pre_lt {x y : List UInt8} (h : x < y) : ∀ l : List UInt8, l ++ x < l ++ y
  | [] => h
  | _ :: l => List.Lex.cons (pre_lt h l)
theorem sname_lt (log : ByteArray) {b c : Nat} (h : b < c) (hc : c ≤ 9007199254740992) : sname log b < sname log c := pre_lt (List.Lex.cons (hex_lt 14 b c h (by omega))) _
end Go.Proofs.YtlgcoaeddeiegaaGreat
/- A log of segments, plainly: what Read answers over segments that lie behind one another. -/
namespace Go.Proofs.YtlgcoaeddeiegaaGreat
open Go

section
variable {α : Type}
/-- segments lie behind one another, from bn on -/
def Behind : Nat → List (Nat × List α) → Prop
  | _, [] => True
  | bn, (b, l) :: r => b = bn ∧ Behind (bn + l.length) r
/-- what is read of them, one by one -/
def readGo (f u m : Nat) : List (Nat × List α) → List α → List α
  | [], out => out
  | (b, l) :: r, out =>
    if min u (b + l.length) ≤ max f b then readGo f u m r out
    else if m ≤ (out ++ (l.drop (max f b - b)).take (min (min u (b + l.length) - max f b) (m - out.length))).length then out ++ (l.drop (max f b - b)).take (min (min u (b + l.length) - max f b) (m - out.length))
    else readGo f u m r (out ++ (l.drop (max f b - b)).take (min (min u (b + l.length) - max f b) (m - out.length)))
theorem readGo_eq (f u m : Nat) : ∀ (segs : List (Nat × List α)) (bn : Nat) (out : List α), Behind bn segs → readGo f u m segs out = out ++ ((segs.flatMap (·.2)).drop (f - bn)).take (min (u - max f bn) (m - out.length))
  | [], bn, out, _ => by simp [readGo]
  | (b, l) :: r, bn, out, h => by
    obtain ⟨rfl, hr⟩ := h
    have ih := readGo_eq f u m r (b + l.length)
    rw [List.flatMap_cons]
    show readGo f u m ((b, l) :: r) out = out ++ ((l ++ r.flatMap (·.2)).drop (f - b)).take _
    generalize hA : r.flatMap (·.2) = A at ih ⊢
    unfold readGo
    by_cases h1 : min u (b + l.length) ≤ max f b
    · rw [if_pos h1, ih out hr]
      congr 1
      by_cases h2 : u ≤ max f b
      · rw [show u - max f b = 0 by omega, show u - max f (b + l.length) = 0 by omega]
        simp
      · have h3 : b + l.length ≤ max f b := by omega
        by_cases h4 : l.length = 0
        · have : l = [] := List.length_eq_zero_iff.1 h4
          subst this
          simp
        · have h5 : b + l.length ≤ f := by omega
          rw [List.drop_append, List.drop_of_length_le (by omega : l.length ≤ f - b), List.nil_append, show f - b - l.length = f - (b + l.length) by omega, show max f b = max f (b + l.length) by omega]
    · rw [if_neg h1]
      have hk : max f b - b = f - b := by omega
      have hkl : f - b < l.length := by omega
      obtain ⟨X, hX⟩ : ∃ X, l.drop (f - b) = X := ⟨_, rfl⟩
      obtain ⟨M, hM⟩ : ∃ M, m - out.length = M := ⟨_, rfl⟩
      have hL : X.length = b + l.length - max f b := by rw [← hX, List.length_drop]; omega
      have hdrop : (l ++ A).drop (f - b) = X ++ A := by
        rw [List.drop_append_of_le_length (by omega), hX]
      rw [hk, hX, hM, hdrop, List.take_append]
      have hn : X.take (min (min u (b + l.length) - max f b) M) = X.take (min (u - max f b) M) := by
        by_cases h6 : u ≤ b + l.length
        · rw [show min u (b + l.length) = u by omega]
        · rw [show min (min u (b + l.length) - max f b) M = min X.length M by omega]
          by_cases h7 : X.length ≤ M
          · rw [show min X.length M = X.length by omega, List.take_length, List.take_of_length_le (by omega)]
          · rw [show min X.length M = M by omega, show min (u - max f b) M = M by omega]
      rw [hn]
      have hlen : (X.take (min (u - max f b) M)).length = min (min (u - max f b) M) X.length := List.length_take
      by_cases h8 : m ≤ (out ++ X.take (min (u - max f b) M)).length
      · rw [if_pos h8]
        rw [List.length_append, hlen] at h8
        rw [show min (u - max f b) M - X.length = 0 by omega, List.take_zero, List.append_nil]
      · rw [if_neg h8, ih _ hr]
        rw [List.length_append, hlen] at h8
        rw [List.append_assoc, List.length_append, hlen]
        congr 2
        rw [show f - (b + l.length) = 0 by omega, List.drop_zero]
        congr 1
        omega
end
end Go.Proofs.YtlgcoaeddeiegaaGreat
