/- The texts SegA, SegP, SegB, SegC0, Mt, Mu in one. -/
import Derived.Test.YtmkjejngnahpeaaGreatProg
import Derived.WalkKit
import Derived.WalkSpells
import Derived.WalkLawsBesides
import Derived.Lib.Hide
import Derived.Deep.Cut
import Derived.Test.YtmkjejngnahpeaaGreatV1
import Derived.Test.YtmkjejngnahpeaaGreatV8
import Derived.Test.YtmkjejngnahpeaaGreatV5
/- Segment names: the walks. -/
namespace Go.Proofs.YtmkjejngnahpeaaGreat
open Go.RowKit

/-- all letters from a to z -/
def lowB (l : List UInt8) : Bool := l.all fun c => 97 ≤ c && c ≤ 122
def loggedB (l : List UInt8) : Bool := lowB l && decide (1 ≤ l.length) && decide (l.length ≤ 8)

theorem take_snocS (s : ByteArray) (k : Nat) (h : k < s.size) : s.data.toList.take (k + 1) = s.data.toList.take k ++ [s[k]] := by
  rw [List.take_succ_eq_append_getElem (by simpa using h)]; rfl
theorem low_snoc (l : List UInt8) (c : UInt8) : lowB (l ++ [c]) = (lowB l && (97 ≤ c && c ≤ 122)) := by simp [lowB]
theorem low_take_false (l : List UInt8) (k : Nat) (h : lowB (l.take k) = false) : lowB l = false := by
  rw [← List.take_append_drop k l]
  unfold lowB at *
  rw [List.all_append, h, Bool.false_and]

theorem ret_boolS {a b : Bool} (h : a = b) : Ending.returned (.bool a) = .returned (.bool b) := by rw [h]

set_option maxHeartbeats 400000 in
theorem logged_any (s : ByteArray) (w : World) (hs : s.size ≤ maxLen) :
    Calls Tryz.prog 38 #[.string s] w fun e w' => e = .returned (.bool (loggedB s.data.toList)) ∧ w = w' := by
  unfold maxLen at hs
  go_enter Tryz.func38, Tryz.ntmps38
  go_wp2
  go_loop [6] (fun i => ∃ k : Nat, k ≤ s.size ∧ i = .int .i64 k ∧ lowB (s.data.toList.take k) = true) (fun i => s.size - (intOf i).toNat)
  case atStart => exact ⟨0, Nat.zero_le _, rfl, rfl⟩
  case round =>
    obtain ⟨k, hk, rfl, hlow⟩ := hrel
    have HL := Lib.hid hlow
    clear hlow
    by_cases hlt : k < s.size
    · by_cases hc : 97 ≤ (s[k].toNat : Int) ∧ (s[k].toNat : Int) ≤ 122
      · obtain ⟨hc1, hc2⟩ := hc
        go_wp2
        go_round
        case rel =>
          refine ⟨k + 1, by omega, by go_num, ?_⟩
          rw [take_snocS s k hlt, low_snoc, HL.out]
          simp [UInt8.le_iff_toNat_le]; omega
        case measure => simp [intOf]; omega
      · have hf : loggedB s.data.toList = false := by
          have h1 : lowB (s.data.toList.take (k + 1)) = false := by
            rw [take_snocS s k hlt, low_snoc, HL.out]
            simp [UInt8.le_iff_toNat_le]; omega
          simp [loggedB, low_take_false _ _ h1]
        have HF := Lib.hid hf
        clear hf
        go_wp2
        all_goals (go_ret; exact ⟨ret_boolS HF.out.symm, rfl⟩)
    · obtain rfl : k = s.size := by omega
      have hl : lowB s.data.toList = true := by
        have := HL.out
        rwa [List.take_of_length_le (by simp)] at this
      have HF : Hid (loggedB s.data.toList = (decide (1 ≤ s.size) && decide (s.size ≤ 8))) := by
        refine Lib.hid ?_
        simp [loggedB, hl]
      clear hl HL
      by_cases h1 : 1 ≤ s.size
      · go_wp2
        go_ret
        exact ⟨ret_boolS (by rw [HF.out]; simp [h1]; omega), rfl⟩
      · have hd : decide ((1 : Int) ≤ (s.size : Int)) = false := by simp; omega
        go_wp2
        go_ret
        exact ⟨ret_boolS (by rw [HF.out]; simp [h1]), rfl⟩
end Go.Proofs.YtmkjejngnahpeaaGreat
/- Segment names: the plain laws (lists of bytes and numbers; no program). -/
namespace Go.Proofs.YtmkjejngnahpeaaGreat

def hexd (d : Nat) : UInt8 := if d < 10 then UInt8.ofNat (48 + d) else UInt8.ofNat (87 + d)
/-- the last n hexadecimal digits of b -/
def hex : Nat → Nat → List UInt8
  | 0, _ => []
  | n + 1, b => hex n (b / 16) ++ [hexd (b % 16)]
theorem hex_length : ∀ n b, (hex n b).length = n
  | 0, _ => rfl
  | n + 1, b => by simp [hex, hex_length n]
theorem hex_cons : ∀ n b, hex (n + 1) b = hexd (b / 16 ^ n % 16) :: hex n b
  | 0, b => by simp [hex]
  | n + 1, b => by
    rw [hex, hex_cons n, hex, List.cons_append]
    congr 2
    rw [Nat.div_div_eq_div_mul, Nat.pow_succ', Nat.mul_comm]
theorem hex_down (k b : Nat) (h : k < 14) : hex (k + 1) (b / 16 ^ (13 - k)) = hex k (b / 16 ^ (14 - k)) ++ [hexd (b / 16 ^ (13 - k) % 16)] := by
  rw [hex, Nat.div_div_eq_div_mul, ← Nat.pow_succ, show (13 - k).succ = 14 - k by omega]


theorem i64_and15 (n : Int) : bits .and .i64 n 15 = n % 16 := by
  have h15 : (BitVec.ofInt 64 15).toNat = 2 ^ 4 - 1 := by decide
  have key : (BitVec.ofInt 64 n &&& BitVec.ofInt 64 15).toNat = (n % ((2 ^ 64 : Nat) : Int)).toNat % 2 ^ 4 := by
    rw [BitVec.toNat_and, BitVec.toNat_ofInt, h15, Nat.and_two_pow_sub_one_eq_mod]
  show IntKind.i64.wrap ((BitVec.ofInt 64 n &&& BitVec.ofInt 64 15).toNat : Nat) = n % 16
  rw [key, IntKind.wrap_i64]
  omega
theorem digit_bits (b k : Nat) : bits .and .i64 ((b : Int) / 2 ^ (4 * k)) 15 = ((b / 16 ^ k % 16 : Nat) : Int) := by
  rw [i64_and15]
  have h : (2 : Int) ^ (4 * k) = ((16 ^ k : Nat) : Int) := by
    rw [show (16 : Nat) = 2 ^ 4 from rfl, ← Nat.pow_mul]
    simp
  rw [h]
  omega


def hexs : ByteArray := ⟨#[48, 49, 50, 51, 52, 53, 54, 55, 56, 57, 97, 98, 99, 100, 101, 102]⟩
theorem hexs_fin : ∀ d : Fin 16, hexs[d.val]'d.isLt = hexd d.val := by decide
theorem hexs_get (d : Nat) (h : d < 16) : hexs[d]'h = hexd d := hexs_fin ⟨d, h⟩

theorem size_dash (s : ByteArray) : (s ++ (⟨#[45]⟩ : ByteArray)).size = s.size + 1 := by simp [ByteArray.size_append]; rfl
theorem data_dash (s : ByteArray) : (s ++ (⟨#[45]⟩ : ByteArray)).data.toList = s.data.toList ++ [45] := by simp

end Go.Proofs.YtmkjejngnahpeaaGreat
/- Segment names: segment.Name. -/
namespace Go.Proofs.YtmkjejngnahpeaaGreat
open Go.RowKit

theorem info_u8S : (Tryz.prog.info? 5).map (fun i => (i.zero, i.size, i.bytes)) = some (some (.int .u8 0), 1, 1) := by kernel_rfl

set_option maxRecDepth 100000 in
set_option maxHeartbeats 400000 in
theorem name_ok (s : ByteArray) (b : Nat) (w : World) (hs : s.size ≤ 8) (hl : loggedB s.data.toList = true) (hb : b ≤ 9007199254740992) :
    Calls Tryz.prog 13 #[.string s, .int .i64 b] w fun e w' => e = .returned (.tuple #[.string ⟨(s.data.toList ++ 45 :: hex 14 b).toArray⟩, .int .i64 0]) ∧ Below w.heap.size w w' := by
  have hs' : s.size ≤ maxLen := by unfold maxLen; omega
  have HL := Lib.hid hl
  clear hl
  have hd : decide ((9007199254740992 : Int) < (b : Int)) = false := by rw [decide_eq_false_iff_not]; omega
  have hd0 : decide ((b : Int) < 0) = false := by simp
  have HB := Lib.hid hb
  clear hb
  obtain ⟨v0, w1, hrun, hrow, hgrow, hown, hsize⟩ := run_bytes_row (P := Tryz.prog) w w.heap.size 9 58 5 (s ++ ⟨#[45]⟩) Tryz.underlying9 Tryz.underlying58 Tryz.underlying5 (Nat.le_refl _) (by rw [size_dash]; unfold maxLen; omega)
  rw [size_dash, data_dash] at hrow
  have HX := Lib.hid hsize
  have HO := Lib.hid hown
  clear hsize hown
  go_enter Tryz.func13, Tryz.ntmps13
  go_wp2_with (go_at_call 38; refine (logged_any _ _ (by assumption)).mono ?_; rintro e w' ⟨rfl, rfl⟩; rw [HL.out])
  go_loopw [6, 7] (fun v i wr => ∃ k : Nat, k ≤ 14 ∧ i = .int .i64 ((13 : Int) - (k : Int)) ∧ hasRow wr w.heap.size 5 1 v (s.size + 1 + k) (byteCells (s.data.toList ++ 45 :: hex k (b / 16 ^ (14 - k)))) ∧ Below w.heap.size w wr)
    (fun _ i _ => (intOf i + 1).toNat)
  case atStart =>
    refine ⟨0, by omega, rfl, ?_, ?_⟩
    · exact hrow
    · exact (Below.refl _ _).grown hgrow (Nat.le_refl _) (by simp)
  case round =>
    obtain ⟨k, hk, rfl, hrw, hbl⟩ := hrel
    by_cases hlt : k < 14
    · obtain ⟨d, hd⟩ : ∃ d, d = b / 16 ^ (13 - k) % 16 := ⟨_, rfl⟩
      have hd16 : d < 16 := by omega
      have hbit : bits .and .i64 ((b : Int) / 2 ^ (4 * (13 - k))) 15 = (d : Int) := by rw [digit_bits, hd]
      have HD := Lib.hid hd
      clear hd
      have hdg : hexs[d]'hd16 = hexd d := hexs_get d hd16
      go_wp2_with (at_builtin; refine wpList_append_row _ rfl (.tmp 26) (.tmp 33) 58 58 rfl w.heap.size 5 (.int .u8 0) 1 1 Tryz.underlying58 info_u8S rfl u6 (s.size + 1 + k) _ rfl (hrw.alloc _) _ 1 [.int .u8 ((hexs[d]'hd16).toNat : Int)] rfl (Src.slice Tryz.underlying58 ⟨wr.heap.size, 0, none⟩ 1 1 _ rfl (cell_one_new _ _ _) (by simp [Value.oneCell'])) ?_ ?_ ?_ ?_)
      · unfold maxLen; omega
      · omega
      · have := hbl.size; simp; omega
      · intro v' w2 hrow2 hgrow2 _
        clear hbit
        go_wp2
        go_roundw
        case rel =>
          refine ⟨k + 1, by omega, by go_num, ?_, ?_⟩
          · have e : byteCells (s.data.toList ++ 45 :: hex k (b / 16 ^ (14 - k))) ++ [.int .u8 ((hexd d).toNat : Int)] = byteCells (s.data.toList ++ 45 :: hex (k + 1) (b / 16 ^ (14 - (k + 1)))) := by
              rw [HD.out, show 14 - (k + 1) = 13 - k by omega, hex_down k b hlt]
              simp [byteCells]
            rw [← e]
            exact hrow2
          · exact (hbl.alloc hbl.size _).grown hgrow2 (by have := hbl.size; simp; omega) (fun j hj => (hrw.lt j hj).1)
        case measure => simp [intOf]; omega
    · obtain rfl : k = 14 := by omega
      have hst := run_string_row (P := Tryz.prog) wr w.heap.size 58 9 5 u6 (s.data.toList ++ 45 :: hex 14 b) Tryz.underlying58 Tryz.underlying5 Tryz.underlying9
        (by have := hrw; simpa [hex_length] using this)
      go_wp2
      go_ret2
      exact ⟨rfl, hbl⟩
end Go.Proofs.YtmkjejngnahpeaaGreat
/- Name refused: Segment names: the refusals of segment.Name; the reference's Logged and Name. -/
namespace Go.Proofs.YtmkjejngnahpeaaGreat
open Go.RowKit

set_option maxRecDepth 100000 in
set_option maxHeartbeats 400000 in
theorem name_no (s : ByteArray) (b : Int) (w : World) (hs : s.size ≤ maxLen) (h : loggedB s.data.toList = false ∨ b < 0 ∨ 9007199254740992 < b) :
    Calls Tryz.prog 13 #[.string s, .int .i64 b] w fun e w' => e = .returned (.tuple #[.string ⟨#[]⟩, .int .i64 2]) ∧ w = w' := by
  cases hl : loggedB s.data.toList with
  | false =>
    have HL := Lib.hid hl
    clear hl h
    go_enter Tryz.func13, Tryz.ntmps13
    go_wp2_with (go_at_call 38; refine (logged_any _ _ (by assumption)).mono ?_; rintro e w' ⟨rfl, rfl⟩; rw [HL.out])
    go_ret2
    exact ⟨rfl, rfl⟩
  | true =>
    have HL := Lib.hid hl
    by_cases h0 : b < 0
    · have hd0 : decide (b < 0) = true := by simp [h0]
      clear hl h h0
      go_enter Tryz.func13, Tryz.ntmps13
      go_wp2_with (go_at_call 38; refine (logged_any _ _ (by assumption)).mono ?_; rintro e w' ⟨rfl, rfl⟩; rw [HL.out])
      go_ret2
      exact ⟨rfl, rfl⟩
    · have hd0 : decide (b < 0) = false := by simp; omega
      have hd : decide (9007199254740992 < b) = true := by
        rcases h with h | h | h
        · rw [hl] at h; cases h
        · omega
        · simp only [decide_eq_true_eq]; exact h
      clear hl h h0
      go_enter Tryz.func13, Tryz.ntmps13
      go_wp2_with (go_at_call 38; refine (logged_any _ _ (by assumption)).mono ?_; rintro e w' ⟨rfl, rfl⟩; rw [HL.out])
      go_ret2
      exact ⟨rfl, rfl⟩

end Go.Proofs.YtmkjejngnahpeaaGreat
/- segment: how one lies; none, End, Base, Size; Create. -/
namespace Go.Proofs.YtmkjejngnahpeaaGreat
open Go Go.RowKit
attribute [local go_sem] Oper.semAt_some

/-- a segment lies there: its head, its index, its disk, its file's bytes -/
structure SegI (w : World) (S : Nat → Prop) (s x q : Nat) (nm : ByteArray) (bn step : Nat) (sv : Value) (sp : List Sp) (bs : List Bat) (d : Dk) : Prop where
  head : w.heap[s]? = some (.cells #[.int .i64 (bs.length : Int), .int .i64 ((bn + cntT bs : Nat) : Int), .int .i64 ((batsT bs).length : Int), .int .i64 0, .pointer (some ⟨q, 0, none⟩), .string nm, .int .i64 (bn : Int), .pointer (some ⟨x, 0, none⟩)] 75 (0, 0))
  idx : IdxI w x step sv sp
  spots : SpotsOk bn bs sp
  chain : Chain bn bs
  disk : DiskAt w S q d
  file : ∃ f, d.find nm.data.toList = some f ∧ f.bytes = batsT bs
  sS : ¬ S s
  xS : ¬ S x
  vS : ∀ k, sv.ownBlock = some k → ¬ S k
  sx : s ≠ x
  sv : ∀ k, sv.ownBlock = some k → k ≠ s ∧ k ≠ x
  stp : 1 ≤ step ∧ step ≤ 16777216
  off : bn ≤ 9007199254740992
  nms : nm.size ≤ 32
section
variable {w : World} {S : Nat → Prop} {s x q : Nat} {nm : ByteArray} {bn step : Nat} {sv : Value} {sp : List Sp} {bs : List Bat} {d : Dk}
theorem DiskAt.belowS {w' : World} (h : DiskAt w S q d) (hb : Below w.heap.size w w') : DiskAt w' S q d := by
  obtain ⟨mb, fv, L, h⟩ := h
  exact ⟨mb, fv, L, h.below hb⟩
theorem DiskAt.lowS (h : DiskAt w S q d) : ∀ k, S k → k < w.heap.size := by
  obtain ⟨mb, fv, L, h⟩ := h
  exact h.low
theorem SegI.later {w' : World} (h : SegI w S s x q nm bn step sv sp bs d) (hb : Below w.heap.size w w') : SegI w' S s x q nm bn step sv sp bs d :=
  { h with head := (hb.block _ (Array.getElem?_eq_some_iff.1 h.head).1).trans h.head, idx := h.idx.later hb, disk := h.disk.belowS hb }
set_option maxRecDepth 100000 in
set_option maxHeartbeats 400000 in
theorem noneSeg_b (hc : w.cell? ⟨s, 4, none⟩ = some (.pointer (some ⟨q, 0, none⟩))) :
    Calls Tryz.prog 28 #[.pointer (some ⟨s, 0, none⟩)] w fun e w' => e = .returned (.bool false) ∧ w' = w := by
  go_enter Tryz.func28, Tryz.ntmps28
  go_wp2_with fail
  go_ret
  exact ⟨rfl, rfl⟩
set_option maxHeartbeats 400000 in
theorem endS_b (h : SegI w S s x q nm bn step sv sp bs d) :
    Calls Tryz.prog 10 #[.pointer (some ⟨s, 0, none⟩)] w fun e w' => e = .returned (.int .i64 ((bn + cntT bs : Nat) : Int)) ∧ w' = w := by
  have k4 : w.cell? ⟨s, 4, none⟩ = some (.pointer (some ⟨q, 0, none⟩)) := cell_of h.head rfl
  have k1 : w.cell? ⟨s, 1, none⟩ = some (.int .i64 ((bn + cntT bs : Nat) : Int)) := cell_of h.head rfl
  clear h
  go_enter Tryz.func10, Tryz.ntmps10
  go_wp2_with (go_at_call 28; refine (noneSeg_b k4).mono ?_; rintro e w' ⟨rfl, rfl⟩)
  go_ret
  exact ⟨rfl, rfl⟩
end
/-- a file just put in is found -/
theorem insF_find (f : F0) : ∀ l : List F0, (l.find? (fun g => g.name == f.name)) = none → (insF f l).find? (fun g => g.name == f.name) = some f
  | [], _ => by simp [insF]
  | g :: r, h => by
    unfold insF
    split
    · rw [List.find?_cons] at h ⊢
      cases hb : g.name == f.name with
      | true => rw [hb] at h; cases h
      | false =>
        rw [hb] at h
        exact insF_find f r h
    · simp
theorem create_find {d : Dk} {s : List UInt8} (h : (d.create s).1 = 0) : ∃ f, (d.create s).2.find s = some f ∧ f.bytes = [] := by
  unfold Dk.create at h ⊢
  split at h
  · cases h
  · split at h
    · cases h
    · split at h
      · cases h
      · split at h
        · rename_i h4
          exact absurd h h4
        · rename_i h1 h2 h3 h4
          rw [if_neg h1, if_neg h2, if_neg h3, if_neg h4]
          refine ⟨⟨s, [], 0, true, false⟩, ?_, rfl⟩
          have hn : (d.files.find? (fun g => g.name == s)) = none := by
            cases hf : d.files.find? (fun g => g.name == s) with
            | none => rfl
            | some y => exact absurd (by unfold Dk.at; rw [hf]; rfl) h2
          have := insF_find ⟨s, [], 0, true, false⟩ d.files hn
          unfold Dk.find Dk.at
          show Option.filter _ (List.find? _ (insF _ d.files)) = _
          rw [this]
          rfl
end Go.Proofs.YtmkjejngnahpeaaGreat
/- segment: Create. -/
namespace Go.Proofs.YtmkjejngnahpeaaGreat
open Go Go.RowKit
attribute [local go_sem] Oper.semAt_some

def segName (log : ByteArray) (b : Nat) : ByteArray := ⟨(log.data.toList ++ 45 :: hex 14 b).toArray⟩
theorem DiskAt.wider {w : World} {S S' : Nat → Prop} {q : Nat} {d : Dk} (h : DiskAt w S q d) (h1 : ∀ k, S k → S' k) (h2 : ∀ k, S' k → k < w.heap.size) : DiskAt w S' q d := by
  obtain ⟨mb, fv, L, h⟩ := h
  exact ⟨mb, fv, L, h.wider h1 h2⟩
theorem segName_size {log : ByteArray} {b : Nat} (h : log.size ≤ 8) : (segName log b).size ≤ 32 := by
  have e : log.data.toList.length = log.size := by simp
  have e2 : (segName log b).size = (log.data.toList ++ 45 :: hex 14 b).length := rfl
  rw [e2, List.length_append, List.length_cons, hex_length, e]
  omega
/-- what Create answers -/
def CreS (w : World) (S : Nat → Prop) (q : Nat) (d : Dk) (log : ByteArray) (b st : Int) (e : Ending) (w' : World) : Prop :=
  ((b < 0 ∨ 9007199254740992 < b ∨ st < 1 ∨ 16777216 < st) ∧ e = .returned (.tuple #[.pointer none, .int .i64 2]) ∧ Below w.heap.size w w') ∨
  (∃ bn step : Nat, b = (bn : Int) ∧ st = (step : Int) ∧ bn ≤ 9007199254740992 ∧ 1 ≤ step ∧ step ≤ 16777216 ∧
    (((d.create (segName log bn).data.toList).1 ≠ 0 ∧ e = .returned (.tuple #[.pointer none, .int .i64 (d.create (segName log bn).data.toList).1]) ∧ DiskAt w' (Wid S w w') q (d.create (segName log bn).data.toList).2 ∧ Only S w w') ∨
     ((d.create (segName log bn).data.toList).1 = 0 ∧ ∃ s x S', e = .returned (.tuple #[.pointer (some ⟨s, 0, none⟩), .int .i64 0]) ∧ (∀ k, S' k → Wid S w w' k) ∧ w.heap.size ≤ s ∧ w.heap.size ≤ x ∧
      SegI w' S' s x q (segName log bn) bn step (.slice none 0 0) [] [] (d.create (segName log bn).data.toList).2 ∧ Only S w w')))
set_option maxRecDepth 100000 in
set_option maxHeartbeats 1000000 in
theorem createS_b {w : World} {S : Nat → Prop} {q : Nat} {d : Dk} (h : DiskAt w S q d) (log : ByteArray) (hl : log.size ≤ 8) (hlog : loggedB log.data.toList = true) (b st : Int) :
    Calls Tryz.prog 7 #[.pointer (some ⟨q, 0, none⟩), .string log, .int .i64 b, .int .i64 st] w fun e w' => CreS w S q d log b st e w' := by
  have hs' : log.size ≤ maxLen := by unfold maxLen; omega
  by_cases hb : b < 0 ∨ 9007199254740992 < b
  · have HR := Lib.hid hb
    go_enter Tryz.func7, Tryz.ntmps7
    go_wp2_with (go_at_call 13; refine (name_no log b _ hs' (.inr HR.out)).mono ?_; rintro e w' ⟨rfl, rfl⟩)
    refine idxNew_b.mono ?_
    rintro e w' hN
    rcases hN with ⟨hst, rfl, rfl⟩ | ⟨h1, h2, rfl, rfl⟩
    · go_wp2_with fail
      go_ret2
      exact .inl ⟨by rcases HR.out with h | h; exact .inl h; exact .inr (.inl h), rfl, Below.refl _ _⟩
    · go_wp2_with fail
      go_ret2
      exact .inl ⟨by rcases HR.out with h | h; exact .inl h; exact .inr (.inl h), rfl, (Below.refl _ _).alloc (Nat.le_refl _) _⟩
  · obtain ⟨bn, rfl⟩ : ∃ n : Nat, b = (n : Int) := ⟨b.toNat, by omega⟩
    have hbn : bn ≤ 9007199254740992 := by omega
    clear hb
    have HB := Lib.hid hbn
    obtain ⟨nm, hnm⟩ : ∃ nm, nm = segName log bn := ⟨_, rfl⟩
    have hz : nm.size ≤ 32 := by rw [hnm]; exact segName_size hl
    have HNM := Lib.hid hnm
    have hna := name_ok log bn w hl hlog hbn
    rw [show (⟨(log.data.toList ++ 45 :: hex 14 bn).toArray⟩ : ByteArray) = nm from hnm.symm] at hna
    have HNA := Lib.hid hna
    clear hna hnm hbn
    go_enter Tryz.func7, Tryz.ntmps7
    go_wp2_with (go_at_call 13; refine HNA.out.mono ?_; rintro e w1 ⟨rfl, hb1⟩; have HB1 := Lib.hid hb1; clear hb1)
    refine idxNew_b.mono ?_
    rintro e w2 hN
    rcases hN with ⟨hst, rfl, rfl⟩ | ⟨h1, h2, rfl, rfl⟩
    · have HST := Lib.hid hst
      clear hst
      go_wp2_with fail
      go_ret2
      exact .inl ⟨.inr (.inr HST.out), rfl, HB1.out⟩
    · obtain ⟨step, rfl⟩ : ∃ n : Nat, st = (n : Int) := ⟨st.toNat, by omega⟩
      have HST : Hid (1 ≤ step ∧ step ≤ 16777216) := Lib.hid ⟨by omega, by omega⟩
      clear h1 h2
      obtain ⟨x, hx⟩ : ∃ x, x = w1.heap.size := ⟨_, rfl⟩
      obtain ⟨w2, hw2⟩ : ∃ w2 : World, w2 = w1.alloc (.cells #[.int .i64 (step : Int), .slice none 0 0] 111) := ⟨_, rfl⟩
      have hx2 : w2.heap[x]? = some (.cells #[.int .i64 (step : Int), .slice none 0 0] 111 (0, 0)) := by rw [hw2, hx]; exact alloc_cells _ _ _
      have hb2 : Below w.heap.size w w2 := by rw [hw2]; exact HB1.out.alloc HB1.out.size _
      have hxw : w.heap.size ≤ x := by rw [hx]; exact HB1.out.size
      have HX := Lib.hid (And.intro hx2 (And.intro hb2 hxw))
      have hd2 : DiskAt w2 S q d := h.belowS hb2
      rw [← hw2, ← hx]
      clear hw2 hx hx2 hb2 hxw
      go_wp2_with fail
      refine (create_b hd2 nm (Nat.le_trans hz (by decide))).mono ?_
      rintro e w3 ⟨he, hd3, ho3⟩
      obtain ⟨r, hr⟩ : ∃ r, r = d.create nm.data.toList := ⟨_, rfl⟩
      rw [← hr] at he hd3
      subst he
      have HR := Lib.hid hr
      have HO := Lib.hid ho3
      have HD := Lib.hid hd3
      clear hr ho3 hd3
      cases hc : (r.1 == 0) with
      | false =>
        have HC := Lib.hid hc
        have d1 : (r.1 != 0) = true := by unfold bne; rw [hc]; rfl
        clear hc
        go_wp2_with fail
        go_ret2
        have hb2 := HX.out.2.1
        have ho : Only S w w3 := (Only.of_below hb2 (Nat.le_refl _) S).trans HO.out (fun _ _ h => h)
        refine .inr ⟨bn, step, rfl, rfl, HB.out, HST.out.1, HST.out.2, .inl ?_⟩
        rw [← HNM.out, ← HR.out]
        refine ⟨fun h0 => (by rw [beq_eq_false_iff_ne] at HC; exact HC h0), rfl, ?_, ho⟩
        refine HD.out.wider (fun k hk => ?_) (fun k hk => ?_)
        · rcases hk with hk | hk
          · exact .inl hk
          · exact .inr ⟨Nat.le_trans hb2.size hk.1, hk.2⟩
        · rcases hk with hk | hk
          · exact Nat.lt_of_lt_of_le (h.lowS k hk) ho.size
          · exact hk.2
      | true =>
        have hr0 : r.1 = 0 := beq_iff_eq.1 hc
        have HC := Lib.hid hr0
        rw [hr0]
        clear hc hr0
        go_wp2_with fail
        go_ret2
        have hb2 := HX.out.2.1
        have ho : Only S w w3 := (Only.of_below hb2 (Nat.le_refl _) S).trans HO.out (fun _ _ h => h)
        have hxn : ¬ S x := fun hk => Nat.lt_irrefl _ (Nat.lt_of_lt_of_le (h.lowS x hk) HX.out.2.2)
        have hxl : x < w2.heap.size := (Array.getElem?_eq_some_iff.1 HX.out.1).1
        have hx3 : w3.heap[x]? = some (.cells #[.int .i64 (step : Int), .slice none 0 0] 111 (0, 0)) := (HO.out.block x hxl hxn).trans HX.out.1
        refine .inr ⟨bn, step, rfl, rfl, HB.out, HST.out.1, HST.out.2, .inr ?_⟩
        rw [← HNM.out, ← HR.out]
        obtain ⟨w4, hw4⟩ : ∃ w4 : World, w4 = w3.alloc (.cells #[.int .i64 0, .int .i64 (bn : Int), .int .i64 0, .int .i64 0, .pointer (some ⟨q, 0, none⟩), .string nm, .int .i64 (bn : Int), .pointer (some ⟨x, 0, none⟩)] 75) := ⟨_, rfl⟩
        have h34 : Below w3.heap.size w3 w4 := by rw [hw4]; exact (Below.refl _ _).alloc (Nat.le_refl _) _
        have hs4 : w4.heap[w3.heap.size]? = some (.cells #[.int .i64 0, .int .i64 (bn : Int), .int .i64 0, .int .i64 0, .pointer (some ⟨q, 0, none⟩), .string nm, .int .i64 (bn : Int), .pointer (some ⟨x, 0, none⟩)] 75 (0, 0)) := by rw [hw4]; exact alloc_cells _ _ _
        have hsz4 : w3.heap.size < w4.heap.size := (Array.getElem?_eq_some_iff.1 hs4).1
        have ho4 : Only S w w4 := ho.trans (Only.of_below h34 (Nat.le_refl _) S) (fun _ _ h => h)
        rw [← hw4]
        refine ⟨HC.out, w3.heap.size, x, Wid S w2 w3, rfl, fun k hk => ?_, ho.size, HX.out.2.2, ?_, ho4⟩
        · rcases hk with hk | hk
          · exact .inl hk
          · exact .inr ⟨Nat.le_trans hb2.size hk.1, Nat.lt_trans hk.2 hsz4⟩
        · have hf := create_find (d := d) (s := nm.data.toList) (by rw [← HR.out]; exact HC.out)
          rw [← HR.out] at hf
          exact {
            head := hs4
            idx := ⟨(h34.block x (Array.getElem?_eq_some_iff.1 hx3).1).trans hx3, by simp [spsCells], .inl ⟨rfl, rfl⟩⟩
            spots := SpotsOk.nil bn
            chain := Chain.nil bn
            disk := HD.out.belowS h34
            file := hf
            sS := fun hk => by
              rcases hk with hk | hk
              · exact absurd (h.lowS _ hk) (Nat.not_lt.2 ho.size)
              · exact Nat.lt_irrefl _ hk.2
            xS := fun hk => by
              rcases hk with hk | hk
              · exact hxn hk
              · exact Nat.not_lt.2 hk.1 hxl
            vS := fun k hk => by simp [Value.ownBlock] at hk
            sx := fun he => Nat.lt_irrefl _ (by have := Nat.lt_of_lt_of_le hxl HO.out.size; rw [← he] at this; exact this)
            sv := fun k hk => by simp [Value.ownBlock] at hk
            stp := HST.out
            off := HB.out
            nms := hz }
end Go.Proofs.YtmkjejngnahpeaaGreat
