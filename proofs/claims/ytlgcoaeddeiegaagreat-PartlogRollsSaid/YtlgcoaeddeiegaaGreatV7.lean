/- The texts SegD, Po, Pl in one. -/
import Derived.Test.YtlgcoaeddeiegaaGreatV6
import Derived.WalkKit
/- Segment names: segment.Parse. -/
namespace Go.Proofs.YtlgcoaeddeiegaaGreat
open Go.RowKit

def isHex (c : UInt8) : Bool := (48 ≤ c && c ≤ 57) || (97 ≤ c && c ≤ 102)
def hval (c : UInt8) : Nat := if c ≤ 57 then c.toNat - 48 else c.toNat - 87
def hnum (l : List UInt8) : Nat := l.foldl (fun v c => 16 * v + hval c) 0
theorem hnum_snoc (l : List UInt8) (c : UInt8) : hnum (l ++ [c]) = 16 * hnum l + hval c := by simp [hnum]
theorem hval_lt (c : UInt8) (h : isHex c = true) : hval c < 16 := by
  simp [isHex, UInt8.le_iff_toNat_le] at h
  unfold hval
  simp only [UInt8.le_iff_toNat_le]
  split <;> (simp at *; omega)
theorem hnum_lt (l : List UInt8) : ∀ k, k ≤ l.length → (l.take k).all isHex = true → hnum (l.take k) < 16 ^ k := by
  intro k
  induction k with
  | zero => intro _ _; simp [hnum]
  | succ k ih =>
    intro hk h
    rw [List.take_succ_eq_append_getElem (by omega)] at h ⊢
    rw [List.all_append, Bool.and_eq_true] at h
    have h1 := ih (by omega) h.1
    have h2 := hval_lt _ (by simpa using h.2)
    rw [hnum_snoc, Nat.pow_succ]
    omega

/-- the digits of a name -/
def digs (l : List UInt8) : List UInt8 := l.drop (l.length - 14)
/-- is it a segment's name? -/
def okName (l : List UInt8) : Bool :=
  decide (16 ≤ l.length) && (digs l).all isHex && loggedB (l.take (l.length - 15)) && (l[l.length - 15]? == some 45) && decide (hnum (digs l) ≤ 9007199254740992)

theorem or_hex (v d : Nat) (hv : v < 4503599627370496) (hd : d < 16) : bits .or .i64 (wrap64 ((v : Int) * 16)) (d : Int) = ((16 * v + d : Nat) : Int) := by
  have hw : wrap64 ((v : Int) * 16) = ((2 ^ 4 * v : Nat) : Int) := by unfold wrap64; omega
  have hlt : 2 ^ 4 * v ||| d < 2 ^ 63 := Nat.or_lt_two_pow (by omega) (by omega)
  have hj := Nat.two_pow_add_eq_or_of_lt (i := 4) (b := d) (by omega) v
  rw [hw]
  show IntKind.i64.wrap ((BitVec.ofInt 64 ((2 ^ 4 * v : Nat) : Int) ||| BitVec.ofInt 64 (d : Int)).toNat : Nat) = _
  have key : (BitVec.ofInt 64 ((2 ^ 4 * v : Nat) : Int) ||| BitVec.ofInt 64 (d : Int)).toNat = 2 ^ 4 * v ||| d := by
    rw [BitVec.toNat_or, BitVec.toNat_ofInt, BitVec.toNat_ofInt]
    congr 1 <;> omega
  rw [key, IntKind.wrap_i64, ← hj]
  omega

theorem hexd_hval (c : UInt8) (h : isHex c = true) : hexd (hval c) = c := by
  have : ∀ n : Fin 256, isHex (UInt8.ofNat n.val) = true → hexd (hval (UInt8.ofNat n.val)) = UInt8.ofNat n.val := by decide +kernel
  have hc := this ⟨c.toNat, c.toNat_lt⟩
  simp only [UInt8.ofNat_toNat] at hc
  exact hc h
theorem hex_hnum (l : List UInt8) : ∀ k, k ≤ l.length → (l.take k).all isHex = true → hex k (hnum (l.take k)) = l.take k := by
  intro k
  induction k with
  | zero => intro _ _; simp [hex]
  | succ k ih =>
    intro hk h
    rw [List.take_succ_eq_append_getElem (by omega)] at h ⊢
    rw [List.all_append, Bool.and_eq_true] at h
    have h1 := ih (by omega) h.1
    have hc : isHex (l[k]'(by omega)) = true := by simpa using h.2
    have h2 := hval_lt _ hc
    rw [hnum_snoc, hex, show (16 * hnum (l.take k) + hval l[k]) / 16 = hnum (l.take k) by omega, show (16 * hnum (l.take k) + hval l[k]) % 16 = hval l[k] by omega, h1, hexd_hval _ hc]

theorem digs_length (l : List UInt8) (h : 16 ≤ l.length) : (digs l).length = 14 := by simp [digs]; omega
theorem digs_bad (l : List UInt8) (k : Nat) (h : 16 ≤ l.length) (hk : k < 14) (hc : isHex ((digs l).getD k 0) = false) : okName l = false := by
  have hl := digs_length l h
  have : (digs l).all isHex = false := by
    rw [List.all_eq_false]
    refine ⟨(digs l)[k]'(by omega), List.getElem_mem _, ?_⟩
    simp only [List.getD_eq_getElem?_getD, List.getElem?_eq_getElem (show k < (digs l).length by omega), Option.getD_some] at hc
    simp [hc]
  simp [okName, this]
theorem name_parts (l : List UInt8) (h : 16 ≤ l.length) : l = l.take (l.length - 15) ++ (l[l.length - 15]'(by omega)) :: digs l := by
  have h1 := List.take_append_drop (l.length - 15) l
  have h2 : l.drop (l.length - 15) = (l[l.length - 15]'(by omega)) :: l.drop (l.length - 15 + 1) := List.drop_eq_getElem_cons (by omega)
  have h3 : l.length - 15 + 1 = l.length - 14 := by omega
  rw [h2, h3] at h1
  exact h1.symm
/-- the name that the digits give back is the name itself, just where the dash stands -/
theorem back_eq (l : List UInt8) (h : 16 ≤ l.length) (hx : (digs l).all isHex = true) :
    (l.take (l.length - 15) ++ 45 :: hex 14 (hnum (digs l)) = l) ↔ l[l.length - 15]? = some 45 := by
  have hl := digs_length l h
  have hh := hex_hnum (digs l) 14 (by omega) (by rw [List.take_of_length_le (by omega)]; exact hx)
  rw [List.take_of_length_le (by omega)] at hh
  rw [hh]
  constructor
  · intro he
    have : l[l.length - 15]? = (l.take (l.length - 15) ++ 45 :: digs l)[l.length - 15]? := by rw [he]
    rw [this, List.getElem?_append_right (by simp)]
    simp
  · intro he
    have hp := name_parts l h
    rw [List.getElem?_eq_getElem (by omega)] at he
    simp only [Option.some.injEq] at he
    rw [he] at hp
    exact hp.symm

/-- what Parse answers -/
def ParsePost (s : ByteArray) (e : Ending) : Prop :=
  (okName s.data.toList = true → e = .returned (.tuple #[.string (s.extract 0 (s.size - 15)), .int .i64 ((hnum (digs s.data.toList) : Nat) : Int), .bool true])) ∧
  (okName s.data.toList = false → e = .returned (.tuple #[.string ⟨#[]⟩, .int .i64 0, .bool false]))

theorem ParsePost.bad {s : ByteArray} (h : okName s.data.toList = false) : ParsePost s (.returned (.tuple #[.string ⟨#[]⟩, .int .i64 0, .bool false])) :=
  ⟨fun h' => (by rw [h] at h'; cases h'), fun _ => rfl⟩
theorem ParsePost.good {s : ByteArray} (h : okName s.data.toList = true) {a b : Value} (ha : a = .string (s.extract 0 (s.size - 15))) (hb : b = .int .i64 ((hnum (digs s.data.toList) : Nat) : Int)) :
    ParsePost s (.returned (.tuple #[a, b, .bool true])) :=
  ⟨fun _ => by rw [ha, hb], fun h' => (by rw [h] at h'; cases h')⟩

theorem name_ok' (s bk : ByteArray) (b : Nat) (w : World) (hs : s.size ≤ 8) (hl : loggedB s.data.toList = true) (hb : b ≤ 9007199254740992) (hbk : bk = ⟨(s.data.toList ++ 45 :: hex 14 b).toArray⟩) :
    Calls Tryz.prog 78 #[.string s, .int .i64 b] w fun e w' => e = .returned (.tuple #[.string bk, .int .i64 0]) ∧ Below w.heap.size w w' := by
  subst hbk
  exact name_ok s b w hs hl hb

theorem loggedB_len (l : List UInt8) (h : loggedB l = true) : 1 ≤ l.length ∧ l.length ≤ 8 := by
  simp [loggedB] at h
  omega

set_option maxRecDepth 100000 in
set_option maxHeartbeats 1000000 in
theorem parse_long (s : ByteArray) (w : World) (hs : s.size ≤ maxLen) (h16 : 16 ≤ s.size) :
    Calls Tryz.prog 19 #[.string s] w fun e w' => ParsePost s e ∧ Below w.heap.size w w' := by
  have hs0 := hs
  unfold maxLen at hs
  have hlen : s.data.toList.length = s.size := by simp
  obtain ⟨cap, w1, hrun, hcap, hcell, hbl, hsz⟩ := run_bytes_read (P := Tryz.prog) w 9 39 5 (s.extract (s.size - 14) s.size) Tryz.underlying9 Tryz.underlying39 Tryz.underlying5
  have HX := Lib.hid hsz
  clear hsz
  have h14 : s.size - (s.size - 14) = 14 := by omega
  obtain ⟨ds, hds⟩ : ∃ ds, ds = digs s.data.toList := ⟨_, rfl⟩
  have hdl : ds.length = 14 := by rw [hds]; exact digs_length _ (by omega)
  have hcell' : ∀ j, j < 14 → w1.cell? ⟨w.heap.size, j, none⟩ = some (.int .u8 ((ds.getD j 0).toNat : Int)) := by
    intro j hj
    have hsz : (s.extract (s.size - 14) s.size).size = 14 := by simp; omega
    rw [hcell j (by omega)]
    have e : (s.extract (s.size - 14) s.size)[j]'(by omega) = ds.getD j 0 := by
      rw [hds, digs, List.getD_eq_getElem?_getD, List.getElem?_drop, hlen]
      rw [ByteArray.getElem_extract]
      rw [List.getElem?_eq_getElem (by simp; omega)]
      rfl
    rw [e]
  have HDS := Lib.hid hds
  have HDL := Lib.hid hdl
  have HLEN := Lib.hid hlen
  clear hds hcell hcap hdl hlen
  go_enter Tryz.func19, Tryz.ntmps19
  go_wp2
  go_loop [6, 23] (fun c i => ∃ k v : Nat, k ≤ 14 ∧ i = .int .i64 k ∧ c = .int .i64 v ∧ Hid ((ds.take k).all isHex = true ∧ v = hnum (ds.take k))) (fun _ i => (14 - intOf i).toNat)
  case atStart => exact ⟨0, 0, by omega, rfl, rfl, Lib.hid (by simp [hnum])⟩
  case round =>
    obtain ⟨k, v, hk, rfl, rfl, HV⟩ := hrel
    by_cases hlt : k < 14
    · obtain ⟨c, hc⟩ : ∃ c, c = ds.getD k 0 := ⟨_, rfl⟩
      have hck := hcell' k hlt
      rw [← hc] at hck
      have HC := Lib.hid hc
      clear hc hcell'
      have HT : Hid (ds.take (k + 1) = ds.take k ++ [c]) := by
        refine Lib.hid ?_
        have := HDL.out
        rw [List.take_succ_eq_append_getElem (by omega), HC.out]
        simp [List.getD_eq_getElem?_getD, List.getElem?_eq_getElem (show k < ds.length by omega)]
      have HB : Hid (v < 4503599627370496) := by
        refine Lib.hid ?_
        have h1 := hnum_lt ds k (by have := HDL.out; omega) HV.out.1
        have h2 : 16 ^ k ≤ 16 ^ 13 := Nat.pow_le_pow_right (by decide) (by omega)
        rw [HV.out.2]
        have h3 : (16 : Nat) ^ 13 = 4503599627370496 := by decide
        omega
      by_cases hc1 : 48 ≤ (c.toNat : Int) ∧ (c.toNat : Int) ≤ 57
      · obtain ⟨hc1, hc2⟩ := hc1
        have HH : Hid (isHex c = true ∧ hval c = c.toNat - 48) := Lib.hid (by simp [isHex, hval, UInt8.le_iff_toNat_le]; omega)
        go_wp2
        go_round
        case rel =>
          refine ⟨k + 1, 16 * v + hval c, by omega, by go_num, ?_, Lib.hid ⟨?_, ?_⟩⟩
          · have := or_hex v (hval c) HB.out (hval_lt c HH.out.1)
            rw [show ((hval c : Nat) : Int) = (c.toNat : Int) - 48 by rw [HH.out.2]; omega] at this
            rw [this]
          · rw [HT.out, List.all_append, HV.out.1]; simp [HH.out.1]
          · rw [HT.out, hnum_snoc, HV.out.2]
        case measure => simp [intOf]; omega
      · by_cases hc3 : 97 ≤ (c.toNat : Int) ∧ (c.toNat : Int) ≤ 102
        · obtain ⟨hc3, hc4⟩ := hc3
          have HH : Hid (isHex c = true ∧ hval c = c.toNat - 87) := Lib.hid (by simp [isHex, hval, UInt8.le_iff_toNat_le]; omega)
          clear hc1
          go_wp2
          go_round
          case rel =>
            refine ⟨k + 1, 16 * v + hval c, by omega, by go_num, ?_, Lib.hid ⟨?_, ?_⟩⟩
            · have := or_hex v (hval c) HB.out (hval_lt c HH.out.1)
              rw [show ((hval c : Nat) : Int) = (c.toNat : Int) - 97 + 10 by rw [HH.out.2]; omega] at this
              rw [this]
            · rw [HT.out, List.all_append, HV.out.1]; simp [HH.out.1]
            · rw [HT.out, hnum_snoc, HV.out.2]
          case measure => simp [intOf]; omega
        · have HF : Hid (okName s.data.toList = false) := by
            refine Lib.hid (digs_bad _ k (by rw [HLEN.out]; exact h16) hlt ?_)
            rw [← HDS.out, ← HC.out]
            simp [isHex, UInt8.le_iff_toNat_le]
            omega
          go_wp2
          all_goals (go_ret3; exact ⟨ParsePost.bad HF.out, hbl⟩)
    · obtain rfl : k = 14 := by omega
      have HP : Hid ((s.extract 0 (s.size - 14 - 1)).data.toList = s.data.toList.take (s.size - 15)) := by
        refine Lib.hid ?_
        simp
        omega
      have HALL : Hid ((digs s.data.toList).all isHex = true ∧ v = hnum (digs s.data.toList)) := by
        refine Lib.hid ?_
        have h1 := HV.out
        rw [List.take_of_length_le (by have := HDL.out; omega), HDS.out] at h1
        exact h1
      have hps : (s.extract 0 (s.size - 14 - 1)).size ≤ s.size := by simp; omega
      clear hlt hk hcell'
      by_cases hg : loggedB (s.data.toList.take (s.size - 15)) = true ∧ v ≤ 9007199254740992
      · obtain ⟨hg1, hg2⟩ := hg
        have h8 : (s.extract 0 (s.size - 14 - 1)).size ≤ 8 := by
          have := (loggedB_len _ hg1).2
          simp at this ⊢
          omega
        obtain ⟨bk, hbk⟩ : ∃ bk : ByteArray, bk = ⟨((s.extract 0 (s.size - 14 - 1)).data.toList ++ 45 :: hex 14 v).toArray⟩ := ⟨_, rfl⟩
        have hback : bk = s ↔ s.data.toList[s.data.toList.length - 15]? = some 45 := by
          rw [← back_eq _ (by rw [HLEN.out]; exact h16) HALL.out.1, ← HALL.out.2, HLEN.out, hbk, HP.out]
          constructor
          · intro h
            have := congrArg (fun b : ByteArray => b.data.toList) h
            simpa using this
          · intro h
            apply ByteArray.ext
            apply Array.ext'
            simpa using h
        have hok : okName s.data.toList = (s.data.toList[s.data.toList.length - 15]? == some 45) := by
          unfold okName
          rw [HLEN.out, HALL.out.1, hg1, ← HALL.out.2]
          simp [hg2, h16]
        have HG := Lib.hid hg1
        have HG2 := Lib.hid hg2
        have HBK := Lib.hid hbk
        by_cases hd : s.data.toList[s.data.toList.length - 15]? = some 45
        · have hbs := str_eq_true (hback.2 hd)
          have HOK : Hid (okName s.data.toList = true) := Lib.hid (by rw [hok, hd]; rfl)
          clear hback hok hd hg1 hg2 hbk
          go_wp2_with fail
          refine (name_ok' _ bk v _ h8 (by rw [HP.out]; exact HG.out) HG2.out HBK.out).mono ?_
          rintro e w' ⟨rfl, hb2⟩
          go_wp2
          go_ret3
          exact ⟨ParsePost.good (a := .string (s.extract 0 (s.size - 14 - 1))) (b := .int .i64 (v : Int)) HOK.out (by rw [show s.size - 14 - 1 = s.size - 15 by omega]) (by rw [← HALL.out.2]), hbl.trans (hb2.mono hbl.size)⟩
        · have hbs := str_eq_false (fun h => hd (hback.1 h))
          have HOK : Hid (okName s.data.toList = false) := Lib.hid (by rw [hok]; simpa using hd)
          clear hback hok hd hg1 hg2 hbk
          go_wp2_with fail
          refine (name_ok' _ bk v _ h8 (by rw [HP.out]; exact HG.out) HG2.out HBK.out).mono ?_
          rintro e w' ⟨rfl, hb2⟩
          go_wp2
          go_ret3
          exact ⟨ParsePost.bad HOK.out, hbl.trans (hb2.mono hbl.size)⟩
      · have HOK : Hid (okName s.data.toList = false) := by
          refine Lib.hid ?_
          unfold okName
          rw [HLEN.out, ← HALL.out.2]
          cases hl : loggedB (s.data.toList.take (s.size - 15)) with
          | false => simp
          | true =>
            have : ¬ v ≤ 9007199254740992 := fun h => hg ⟨hl, h⟩
            simp [this]
        have HN : Hid (loggedB (s.extract 0 (s.size - 14 - 1)).data.toList = false ∨ (v : Int) < 0 ∨ 9007199254740992 < (v : Int)) := by
          refine Lib.hid ?_
          rw [HP.out]
          cases hl : loggedB (s.data.toList.take (s.size - 15)) with
          | false => exact .inl rfl
          | true =>
            have : ¬ v ≤ 9007199254740992 := fun h => hg ⟨hl, h⟩
            exact .inr (.inr (by omega))
        clear hg
        go_wp2_with fail
        refine (name_no _ _ _ (by unfold maxLen; omega) HN.out).mono ?_
        rintro e w' ⟨rfl, rfl⟩
        go_wp2
        go_ret3
        exact ⟨ParsePost.bad HOK.out, hbl⟩

set_option maxRecDepth 100000 in
set_option maxHeartbeats 400000 in
theorem parse_any (s : ByteArray) (w : World) (hs : s.size ≤ maxLen) :
    Calls Tryz.prog 19 #[.string s] w fun e w' => ParsePost s e ∧ Below w.heap.size w w' := by
  by_cases h16 : 16 ≤ s.size
  · exact parse_long s w hs h16
  · have HOK : Hid (okName s.data.toList = false) := Lib.hid (by simp [okName]; omega)
    unfold maxLen at hs
    go_enter Tryz.func19, Tryz.ntmps19
    go_wp2
    go_ret3
    exact ⟨ParsePost.bad HOK.out, Below.refl _ _⟩
end Go.Proofs.YtlgcoaeddeiegaaGreat
/- A log of segments, plainly: its segments' names, their order. -/
namespace Go.Proofs.YtlgcoaeddeiegaaGreat
open Go Go.RowKit

theorem hexd_okL : ∀ d : Nat, d < 16 → isHex (hexd d) = true ∧ hval (hexd d) = d := by decide
theorem hex_numL : ∀ n b, (hex n b).all isHex = true ∧ hnum (hex n b) = b % 16 ^ n
  | 0, b => ⟨rfl, by simp [hex, hnum, Nat.mod_one]⟩
  | n + 1, b => by
    obtain ⟨h1, h2⟩ := hex_numL n (b / 16)
    obtain ⟨h3, h4⟩ := hexd_okL (b % 16) (by omega)
    refine ⟨?_, ?_⟩
    · rw [hex, List.all_append, h1]
      simp [h3]
    · rw [hex, hnum_snoc, h2, h4, Nat.pow_succ', Nat.mod_mul]
      omega
/-- a segment's name, byte by byte -/
def sname (log : ByteArray) (b : Nat) : List UInt8 := log.data.toList ++ 45 :: hex 14 b
theorem segName_data (log : ByteArray) (b : Nat) : (segName log b).data.toList = sname log b := rfl
theorem sname_len (log : ByteArray) (b : Nat) : (sname log b).length = log.size + 15 := by
  unfold sname
  rw [List.length_append, List.length_cons, hex_length]
  simp
/-- is it the name of a segment of the log? -/
def ofLog (log : ByteArray) (s : List UInt8) : Bool := okName s && (s.take (s.length - 15) == log.data.toList)
theorem sname_parts (log : ByteArray) (b : Nat) : digs (sname log b) = hex 14 b ∧ (sname log b).take ((sname log b).length - 15) = log.data.toList ∧ (sname log b)[(sname log b).length - 15]? = some 45 := by
  have hz : log.data.toList.length = log.size := by simp
  refine ⟨?_, ?_, ?_⟩
  · unfold digs
    rw [sname_len, show log.size + 15 - 14 = log.data.toList.length + 1 by omega]
    unfold sname
    rw [List.drop_append, List.drop_of_length_le (by omega), Nat.add_sub_cancel_left]
    rfl
  · rw [sname_len, show log.size + 15 - 15 = log.data.toList.length by omega]
    unfold sname
    rw [List.take_append_of_le_length (Nat.le_refl _), List.take_length]
  · rw [sname_len, show log.size + 15 - 15 = log.data.toList.length by omega]
    unfold sname
    rw [List.getElem?_append_right (Nat.le_refl _), Nat.sub_self]
    rfl
theorem sname_ok {log : ByteArray} (hlog : loggedB log.data.toList = true) {b : Nat} (h : b ≤ 9007199254740992) : okName (sname log b) = true ∧ hnum (digs (sname log b)) = b := by
  obtain ⟨h1, h2, h3⟩ := sname_parts log b
  obtain ⟨g1, g2⟩ := hex_numL 14 b
  rw [Nat.mod_eq_of_lt (by omega)] at g2
  have hl := loggedB_len _ hlog
  have hz : log.data.toList.length = log.size := by simp
  rw [h1]
  refine ⟨?_, g2⟩
  unfold okName
  have h3' : (sname log b)[(sname log b).length - 15]? == some 45 := by rw [h3]; rfl
  rw [h1, g1, g2, h2, hlog, h3', sname_len, decide_eq_true (show 16 ≤ log.size + 15 by omega), decide_eq_true h]
  rfl
theorem sname_of {log : ByteArray} (hlog : loggedB log.data.toList = true) {b : Nat} (h : b ≤ 9007199254740992) : ofLog log (sname log b) = true := by
  unfold ofLog
  rw [(sname_ok hlog h).1, (sname_parts log b).2.1]
  simp
theorem sname_inj {log : ByteArray} (hlog : loggedB log.data.toList = true) {b c : Nat} (h : b ≤ 9007199254740992) (h' : c ≤ 9007199254740992) (e : sname log b = sname log c) : b = c := by
  rw [← (sname_ok hlog h).2, e, (sname_ok hlog h').2]
/-- a name of the log is its segment's name -/
theorem of_sname {log : ByteArray} {s : List UInt8} (h : ofLog log s = true) : ∃ b, b ≤ 9007199254740992 ∧ s = sname log b ∧ hnum (digs s) = b := by
  unfold ofLog at h
  rw [Bool.and_eq_true] at h
  obtain ⟨h1, h2⟩ := h
  have h2 : s.take (s.length - 15) = log.data.toList := by simpa using h2
  unfold okName at h1
  simp only [Bool.and_eq_true, decide_eq_true_eq, beq_iff_eq] at h1
  obtain ⟨⟨⟨⟨g1, g2⟩, g3⟩, g4⟩, g5⟩ := h1
  refine ⟨hnum (digs s), g5, ?_, rfl⟩
  have hx := hex_hnum (digs s) 14 (by rw [digs_length s g1]; exact Nat.le_refl _) (by rw [List.take_of_length_le (by rw [digs_length s g1]; exact Nat.le_refl _)]; exact g2)
  rw [List.take_of_length_le (by rw [digs_length s g1]; exact Nat.le_refl _)] at hx
  unfold sname
  rw [hx, ← h2]
  have := name_parts s g1
  rw [List.getElem?_eq_getElem (by omega)] at g4
  rw [Option.some.inj g4] at this
  exact this
theorem hexd_lt : ∀ a : Fin 16, ∀ b : Fin 16, a.val < b.val → hexd a.val < hexd b.val := by decide
theorem hexd_lt' {a b : Nat} (h : a < b) (hb : b < 16) : hexd a < hexd b := hexd_lt ⟨a, by omega⟩ ⟨b, hb⟩ h
theorem hex_mod : ∀ n b, hex n (b % 16 ^ n) = hex n b
  | 0, _ => rfl
  | n + 1, b => by
    have h1 : b % 16 ^ (n + 1) / 16 = b / 16 % 16 ^ n := by rw [Nat.pow_succ, Nat.mul_comm]; exact Nat.mod_mul_right_div_self ..
    have h2 : b % 16 ^ (n + 1) % 16 = b % 16 := by rw [Nat.pow_succ]; exact Nat.mod_mul_left_mod ..
    rw [hex, hex, h1, h2, hex_mod n]
theorem hex_lt : ∀ n a b, a < b → b < 16 ^ n → hex n a < hex n b
  | 0, _, _, h, hb => by simp at hb; omega
  | n + 1, a, b, h, hb => by
    rw [hex_cons, hex_cons]
    have hp : 0 < 16 ^ n := Nat.pos_of_ne_zero (by simp)
    have hq : b / 16 ^ n < 16 := Nat.div_lt_of_lt_mul (by rw [Nat.pow_succ] at hb; exact hb)
    have hle : a / 16 ^ n ≤ b / 16 ^ n := Nat.div_le_div_right (Nat.le_of_lt h)
    rw [Nat.mod_eq_of_lt (by omega : a / 16 ^ n < 16), Nat.mod_eq_of_lt hq]
    by_cases he : a / 16 ^ n = b / 16 ^ n
    · rw [he]
      refine List.Lex.cons ?_
      have h1 := Nat.div_add_mod a (16 ^ n)
      have h2 := Nat.div_add_mod b (16 ^ n)
      rw [he] at h1
      have := hex_lt n (a % 16 ^ n) (b % 16 ^ n) (by omega) (Nat.mod_lt _ hp)
      rwa [hex_mod, hex_mod] at this
    · exact List.Lex.rel (hexd_lt' (by omega) hq)
theorem pre_lt {x y : List UInt8} (h : x < y) : ∀ l : List UInt8, l ++ x < l ++ y
  | [] => h
  | _ :: l => List.Lex.cons (pre_lt h l)
theorem sname_lt (log : ByteArray) {b c : Nat} (h : b < c) (hc : c ≤ 9007199254740992) : sname log b < sname log c := pre_lt (List.Lex.cons (hex_lt 14 b c h (by omega))) _
end Go.Proofs.YtlgcoaeddeiegaaGreat
/- A log of segments, plainly: what Read answers over segments that lie behind one another. -/
namespace Go.Proofs.YtlgcoaeddeiegaaGreat
open Go

section
variable {α : Type}
/-- segments lie behind one another, from bn on -/
def Behind : Nat → List (Nat × List α) → Prop
  | _, [] => True
  | bn, (b, l) :: r => b = bn ∧ Behind (bn + l.length) r
/-- what is read of them, one by one -/
def readGo (f u m : Nat) : List (Nat × List α) → List α → List α
  | [], out => out
  | (b, l) :: r, out =>
    if min u (b + l.length) ≤ max f b then readGo f u m r out
    else if m ≤ (out ++ (l.drop (max f b - b)).take (min (min u (b + l.length) - max f b) (m - out.length))).length then out ++ (l.drop (max f b - b)).take (min (min u (b + l.length) - max f b) (m - out.length))
    else readGo f u m r (out ++ (l.drop (max f b - b)).take (min (min u (b + l.length) - max f b) (m - out.length)))
theorem readGo_eq (f u m : Nat) : ∀ (segs : List (Nat × List α)) (bn : Nat) (out : List α), Behind bn segs → readGo f u m segs out = out ++ ((segs.flatMap (·.2)).drop (f - bn)).take (min (u - max f bn) (m - out.length))
  | [], bn, out, _ => by simp [readGo]
  | (b, l) :: r, bn, out, h => by
    obtain ⟨rfl, hr⟩ := h
    have ih := readGo_eq f u m r (b + l.length)
    rw [List.flatMap_cons]
    show readGo f u m ((b, l) :: r) out = out ++ ((l ++ r.flatMap (·.2)).drop (f - b)).take _
    generalize hA : r.flatMap (·.2) = A at ih ⊢
    unfold readGo
    by_cases h1 : min u (b + l.length) ≤ max f b
    · rw [if_pos h1, ih out hr]
      congr 1
      by_cases h2 : u ≤ max f b
      · rw [show u - max f b = 0 by omega, show u - max f (b + l.length) = 0 by omega]
        simp
      · have h3 : b + l.length ≤ max f b := by omega
        by_cases h4 : l.length = 0
        · have : l = [] := List.length_eq_zero_iff.1 h4
          subst this
          simp
        · have h5 : b + l.length ≤ f := by omega
          rw [List.drop_append, List.drop_of_length_le (by omega : l.length ≤ f - b), List.nil_append, show f - b - l.length = f - (b + l.length) by omega, show max f b = max f (b + l.length) by omega]
    · rw [if_neg h1]
      have hk : max f b - b = f - b := by omega
      have hkl : f - b < l.length := by omega
      obtain ⟨X, hX⟩ : ∃ X, l.drop (f - b) = X := ⟨_, rfl⟩
      obtain ⟨M, hM⟩ : ∃ M, m - out.length = M := ⟨_, rfl⟩
      have hL : X.length = b + l.length - max f b := by rw [← hX, List.length_drop]; omega
      have hdrop : (l ++ A).drop (f - b) = X ++ A := by
        rw [List.drop_append_of_le_length (by omega), hX]
      rw [hk, hX, hM, hdrop, List.take_append]
      have hn : X.take (min (min u (b + l.length) - max f b) M) = X.take (min (u - max f b) M) := by
        by_cases h6 : u ≤ b + l.length
        · rw [show min u (b + l.length) = u by omega]
        · rw [show min (min u (b + l.length) - max f b) M = min X.length M by omega]
          by_cases h7 : X.length ≤ M
          · rw [show min X.length M = X.length by omega, List.take_length, List.take_of_length_le (by omega)]
          · rw [show min X.length M = M by omega, show min (u - max f b) M = M by omega]
      rw [hn]
      have hlen : (X.take (min (u - max f b) M)).length = min (min (u - max f b) M) X.length := List.length_take
      by_cases h8 : m ≤ (out ++ X.take (min (u - max f b) M)).length
      · rw [if_pos h8]
        rw [List.length_append, hlen] at h8
        rw [show min (u - max f b) M - X.length = 0 by omega, List.take_zero, List.append_nil]
      · rw [if_neg h8, ih _ hr]
        rw [List.length_append, hlen] at h8
        rw [List.append_assoc, List.length_append, hlen]
        congr 2
        rw [show f - (b + l.length) = 0 by omega, List.drop_zero]
        congr 1
        omega
end
end Go.Proofs.YtlgcoaeddeiegaaGreat
